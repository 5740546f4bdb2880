/- Contracts and plain laws that the claim leans on, part 4 of 10: each part has its own word. No condition beside theirs. -/
import Derived.Test.YtmfbaijbigodkaaGreatDoorBase
import Derived.Test.YtmfbaijbigodkaaGreatDoorOnly
import Derived.Test.YtmfbaijbigodkaaGreatDoorMay
import Derived.Test.YtmfbaijbigodkaaGreatDoorCredit
import Derived.Test.YtmfbaijbigodkaaGreatDoorVC
import Derived.Deep.QuietTactic
import Derived.BigQuiet
import Derived.BigRegion
import Derived.Laws.BytesString
import Derived.Deep.RegionLaw
import Derived.Deep.DeepCutAuto
import Derived.Deep.MidRow
import Derived.Shelf.Spec.SlicesGrow
import Derived.Deep.Upon
set_option maxHeartbeats 40000000
set_option maxRecDepth 100000
namespace Go.Proofs.YtmfbaijbigodkaaGreatDoor
open Go.ChangeShapes Go.WideShapes Go.ChangeAt Go.RowKit
set_option linter.unusedVariables false
structure Pc where
 at_ : Nat
 d : ByteArray
structure EnS where
 data : ByteArray
 told : List Bool
 may : Int
 made : List (List Pc)
 known : Int
 came : List Rng
 M : Plc
 t : Nat
 W : Int
 L : Int
 C : Int
 R : Int
def EnS.new (n : Int) : EnS := ⟨⟨#[]⟩, List.replicate 60 false, n, [], -1, [], Plc.new, 0, n, n, 0, 0⟩
def tat (T : List Bool) (i : Nat) : Bool := T.getD i false
def tellN (T : List Bool) (a : Nat) : Nat → List Bool
 | 0 => T
 | n + 1 => (tellN T a n).set (a + n) true
def tellPc (T : List Bool) (p : Pc) : List Bool := tellN T p.at_ p.d.size
def tellPcs (T : List Bool) (ps : List Pc) : List Bool := ps.foldl tellPc T
def pcsOf (made : List (List Pc)) (r : Rng) : List Pc := ((made.take (r.hi.toNat + 1)).drop r.lo.toNat).flatten
def tellRs (made : List (List Pc)) (T : List Bool) (L : List Rng) : List Bool := L.foldl (fun T r => tellPcs T (pcsOf made r)) T
theorem tellN_len (T : List Bool) (a : Nat) : ∀ n, (tellN T a n).length = T.length
 | 0 => rfl
 | n + 1 => by rw [tellN, List.length_set, tellN_len T a n]
theorem tellPcs_len (ps : List Pc) : ∀ T, (tellPcs T ps).length = T.length := by
 induction ps with
 | nil => intro T; rfl
 | cons p ps ih => intro T; show (tellPcs (tellPc T p) ps).length = _; rw [ih]; exact tellN_len _ _ _
theorem tellRs_len (made : List (List Pc)) (L : List Rng) : ∀ T, (tellRs made T L).length = T.length := by
 induction L with
 | nil => intro T; rfl
 | cons r L ih => intro T; show (tellRs made (tellPcs T (pcsOf made r)) L).length = _; rw [ih]; exact tellPcs_len _ _
def Pc.has (p : Pc) (j : Nat) : Bool := decide (p.at_ ≤ j ∧ j < p.at_ + p.d.size)
def strN (T : List Bool) (last : Nat) : Nat → Nat → Nat
 | 0, _ => 0
 | f + 1, a => if a < last ∧ tat T a = false then strN T last f (a + 1) + 1 else 0
theorem strN_le (T : List Bool) (last : Nat) : ∀ f a, strN T last f a ≤ f ∧ (a ≤ last → a + strN T last f a ≤ last)
 | 0, a => by simp [strN]
 | f + 1, a => by
   have := strN_le T last f (a + 1)
   rw [strN]
   split
   · rename_i h; omega
   · omega
theorem strN_all {T : List Bool} {last : Nat} : ∀ {f a j : Nat}, j < strN T last f a → a + j < last ∧ tat T (a + j) = false
 | 0, a, j, h => by simp [strN] at h
 | f + 1, a, j, h => by
   rw [strN] at h
   split at h
   · rename_i h0
     cases j with
     | zero => exact h0
     | succ j =>
       have := strN_all (T := T) (last := last) (f := f) (a := a + 1) (j := j) (by omega)
       rw [show a + (j + 1) = a + 1 + j by omega]; exact this
   · omega
theorem strN_eq {T : List Bool} {last : Nat} : ∀ {f a n : Nat}, n ≤ f → (∀ j, j < n → a + j < last ∧ tat T (a + j) = false) → (n = f ∨ ¬ (a + n < last ∧ tat T (a + n) = false)) → strN T last f a = n
 | 0, a, n, h, _, _ => by have : n = 0 := by omega
                          subst this; rfl
 | f + 1, a, 0, h, _, he => by
   rw [strN]
   rcases he with he | he
   · omega
   · rw [Nat.add_zero] at he; rw [if_neg he]
 | f + 1, a, n + 1, h, ha, he => by
   have h0 := ha 0 (by omega)
   rw [Nat.add_zero] at h0
   rw [strN, if_pos h0, strN_eq (f := f) (a := a + 1) (n := n) (by omega) (fun j hj => by
    have := ha (j + 1) (by omega)
    rw [show a + 1 + j = a + (j + 1) by omega]; exact this) (by
    rcases he with he | he
    · left; omega
    · right; rw [show a + 1 + n = a + (n + 1) by omega]; exact he)]
def pcsF (T : List Bool) (last : Nat) (data : ByteArray) : Nat → Nat → Nat → List Pc
 | 0, _, _ => []
 | f + 1, a, k => if a < last ∧ 0 < k then (if strN T last 20 a = 0 then pcsF T last data f (a + 1) k else ⟨a, data.extract a (a + strN T last 20 a)⟩ :: pcsF T last data f (a + strN T last 20 a) (k - 1)) else []
theorem pcsF_none {T : List Bool} {last : Nat} {data : ByteArray} {f a k : Nat} (h : ¬ (a < last ∧ 0 < k)) : pcsF T last data f a k = [] := by
 cases f with
 | zero => rfl
 | succ f => rw [pcsF, if_neg h]
theorem pcsF_more {T : List Bool} {last : Nat} {data : ByteArray} : ∀ {f f' a k : Nat}, last - a ≤ f → last - a ≤ f' → pcsF T last data f a k = pcsF T last data f' a k
 | 0, f', a, k, h, h' => by rw [pcsF_none (by omega), pcsF_none (by omega)]
 | f + 1, 0, a, k, h, h' => by rw [pcsF_none (by omega), pcsF_none (by omega)]
 | f + 1, f' + 1, a, k, h, h' => by
   rw [pcsF, pcsF]
   by_cases h0 : a < last ∧ 0 < k
   · rw [if_pos h0, if_pos h0]
     by_cases h1 : strN T last 20 a = 0
     · rw [if_pos h1, if_pos h1, pcsF_more (f := f) (f' := f') (by omega) (by omega)]
     · rw [if_neg h1, if_neg h1, pcsF_more (f := f) (f' := f') (by omega) (by omega)]
   · rw [if_neg h0, if_neg h0]
def pcsR (T : List Bool) (last : Nat) (data : ByteArray) (a k : Nat) : List Pc := pcsF T last data (last - a) a k
theorem pcsR_none {T : List Bool} {last : Nat} {data : ByteArray} {a k : Nat} (h : ¬ (a < last ∧ 0 < k)) : pcsR T last data a k = [] := pcsF_none h
theorem pcsR_skip {T : List Bool} {last : Nat} {data : ByteArray} {a k : Nat} (h1 : strN T last 20 a = 0) : pcsR T last data a k = pcsR T last data (a + 1) k := by
 by_cases h0 : a < last ∧ 0 < k
 · unfold pcsR
   rw [show last - a = (last - (a + 1)) + 1 by omega, pcsF, if_pos h0, if_pos h1]
 · rw [pcsR_none h0, pcsR_none (by omega)]
theorem pcsR_take {T : List Bool} {last : Nat} {data : ByteArray} {a k : Nat} (h : a < last) (hk : 0 < k) (h1 : strN T last 20 a ≠ 0) : pcsR T last data a k = ⟨a, data.extract a (a + strN T last 20 a)⟩ :: pcsR T last data (a + strN T last 20 a) (k - 1) := by
 unfold pcsR
 rw [show last - a = (last - (a + 1)) + 1 by omega, pcsF, if_pos ⟨h, hk⟩, if_neg h1, pcsF_more (f := last - (a + 1)) (by omega) (Nat.le_refl _)]
theorem pcsF_mem {T : List Bool} {last : Nat} {data : ByteArray} (hl : last ≤ data.size) : ∀ {f a k : Nat} {p : Pc}, p ∈ pcsF T last data f a k → (a ≤ p.at_ ∧ p.at_ + p.d.size ≤ last ∧ 1 ≤ p.d.size ∧ p.d.size ≤ 20) ∧ p.d = data.extract p.at_ (p.at_ + p.d.size) ∧ ∀ j, p.at_ ≤ j → j < p.at_ + p.d.size → tat T j = false
 | 0, a, k, p, h => by simp [pcsF] at h
 | f + 1, a, k, p, h => by
   rw [pcsF] at h
   split at h
   · rename_i h0
     split at h
     · have := pcsF_mem hl h
       exact ⟨⟨by omega, this.1.2⟩, this.2⟩
     · rename_i h1
       have hs := strN_le T last 20 a
       rcases List.mem_cons.1 h with rfl | h
       · have e : (data.extract a (a + strN T last 20 a)).size = strN T last 20 a := by
          rw [ByteArray.size_extract]; omega
         refine ⟨⟨Nat.le_refl _, ?_, ?_, ?_⟩, ?_, ?_⟩
         · show a + (data.extract a (a + strN T last 20 a)).size ≤ last; omega
         · show 1 ≤ (data.extract a (a + strN T last 20 a)).size; omega
         · show (data.extract a (a + strN T last 20 a)).size ≤ 20; omega
         · show data.extract a (a + strN T last 20 a) = data.extract a (a + (data.extract a (a + strN T last 20 a)).size); rw [e]
         · show ∀ j, a ≤ j → j < a + (data.extract a (a + strN T last 20 a)).size → tat T j = false
           intro j h2 h3
           rw [e] at h3
           have := (strN_all (T := T) (last := last) (f := 20) (a := a) (j := j - a) (by omega)).2
           rw [show a + (j - a) = j by omega] at this
           exact this
       · have := pcsF_mem hl h
         exact ⟨⟨by omega, this.1.2⟩, this.2⟩
   · simp at h
theorem pcsF_len {T : List Bool} {last : Nat} {data : ByteArray} : ∀ {f a k : Nat}, (pcsF T last data f a k).length ≤ k
 | 0, a, k => by simp [pcsF]
 | f + 1, a, k => by
   rw [pcsF]
   split
   · split
     · exact pcsF_len
     · rename_i h0 h1
       have := pcsF_len (T := T) (last := last) (data := data) (f := f) (a := a + strN T last 20 a) (k := k - 1)
       rw [List.length_cons]; omega
   · simp
def EnS.last (s : EnS) : Nat := min s.data.size s.may.toNat
def EnS.pieces (s : EnS) : List Pc := pcsR s.told s.last s.data 0 3
def pcFrm (p : Pc) : Frm := ⟨3, [(p.at_ : Int)], p.d⟩
def ackFs (came : List Rng) : List Frm := if came = [] then [] else [⟨2, unpairs came, ByteArray.empty⟩]
def EnS.frames (s : EnS) : List Frm := ackFs s.came ++ ⟨4, [s.L], ByteArray.empty⟩ :: s.pieces.map pcFrm
def EnS.packet (s : EnS) : List UInt8 := pktB s.made.length s.known s.frames
def EnS.make (s : EnS) : EnS := { s with made := s.made ++ [s.pieces] }
def EnS.writeE (s : EnS) (d : ByteArray) : Int := if 60 < s.data.size + d.size then 4 else 0
def EnS.write (s : EnS) (d : ByteArray) : EnS := if 60 < s.data.size + d.size then s else { s with data := s.data ++ d }
def EnS.readE (n : Int) : Int := if n < 0 then 1 else 0
def EnS.readS (s : EnS) (n : Int) : ByteArray := if n < 0 then ⟨#[]⟩ else ⟨(cutL s.M s.t (takeK s.M s.t n)).toArray⟩
def EnS.read (s : EnS) (n : Int) : EnS := if n < 0 then s else { s with t := s.t + takeK s.M s.t n, L := limitN s.W s.L s.R (takeK s.M s.t n), R := s.R + takeK s.M s.t n }
def pcEnd (f : Frm) : Int := ith f.nums 0 + f.data.size
def EnS.take1E (s : EnS) (f : Frm) : Int :=
 if f.kind = 2 then (if (s.made.length : Int) ≤ (rat (pairs f.nums) 0).hi then 6 else 0)
 else if f.kind = 4 then 0
 else if f.kind = 3 then (if takeE s.L (pcEnd f) = 0 then putE s.M (ith f.nums 0) f.data.data.toList else takeE s.L (pcEnd f))
 else 3
def EnS.take1 (s : EnS) (f : Frm) : EnS :=
 if f.kind = 2 then (if (s.made.length : Int) ≤ (rat (pairs f.nums) 0).hi then s else { s with told := tellRs s.made s.told (pairs f.nums), known := max s.known (rat (pairs f.nums) 0).hi })
 else if f.kind = 4 then { s with may := max s.may (ith f.nums 0) }
 else if f.kind = 3 then (if takeE s.L (pcEnd f) = 0 then { s with C := maxN s.C (pcEnd f), M := putM s.M (ith f.nums 0) f.data.data.toList } else s)
 else s
def EnS.takes (s : EnS) : List Frm → Int × EnS
 | [] => (0, s)
 | f :: r => if s.take1E f = 0 then (s.take1 f).takes r else (s.take1E f, s.take1 f)
def nextN (c : List Rng) : Int := if c = [] then 0 else min 1073741823 ((rat c 0).hi + 1)
def EnS.pktE (s : EnS) (n : Int) (L : List Frm) : Int := if inB s.came n = true then 0 else if (s.takes L).1 = 0 then addE s.came n else (s.takes L).1
def EnS.pkt (s : EnS) (n : Int) (L : List Frm) : EnS := if inB s.came n = true then s else if (s.takes L).1 = 0 then (if addE s.came n = 0 then { (s.takes L).2 with came := addL s.came n } else s) else s
noncomputable def EnS.takeE (s : EnS) (b : List UInt8) : Int := if openE b (nextN s.came) = 0 then s.pktE (openN b (nextN s.came)) (openL b (nextN s.came)) else openE b (nextN s.came)
noncomputable def EnS.take (s : EnS) (b : List UInt8) : EnS := if openE b (nextN s.came) = 0 then s.pkt (openN b (nextN s.came)) (openL b (nextN s.came)) else s
structure EnOk (s : EnS) : Prop where
 dz : s.data.size ≤ 60
 tl : s.told.length = 60
 my : 0 ≤ s.may ∧ s.may ≤ 1073741823
 md : ∀ ps ∈ s.made, ps.length ≤ 3 ∧ ∀ p ∈ ps, p.at_ + p.d.size ≤ 60
 kn : -1 ≤ s.known ∧ s.known < s.made.length
 cm : rngE s.came = 0
 ml : s.M.length = 60
 tt : s.t ≤ 60
 cr : CredOk s.W s.L s.C s.R
 rt : s.R = s.t
 mc : ∀ i, (s.M.at i).isSome = true → (i : Int) < s.C
theorem EnOk.new {n : Int} (h1 : 1 ≤ n) (h2 : n ≤ 1000) : EnOk (EnS.new n) :=
 ⟨by show (⟨#[]⟩ : ByteArray).size ≤ 60; decide, by simp [EnS.new], by simp [EnS.new]; omega, by simp [EnS.new], by simp [EnS.new], rfl, Plc.new_len, by simp [EnS.new],
  ⟨h1, h2, by simp [EnS.new], by simp [EnS.new], by simp [EnS.new]; omega, by simp [EnS.new], by simp [EnS.new]; omega, by simp [EnS.new]; omega, by simp [EnS.new]⟩, by simp [EnS.new], fun i hi => by simp [EnS.new, Plc.new_at] at hi⟩
theorem EnOk.last {s : EnS} (h : EnOk s) : s.last ≤ s.data.size ∧ s.last ≤ 60 ∧ (s.last : Int) ≤ s.may := by
 have := h.dz
 have := h.my
 unfold EnS.last
 omega
theorem EnOk.piece {s : EnS} (h : EnOk s) {p : Pc} (hp : p ∈ s.pieces) : (p.at_ + p.d.size ≤ s.last ∧ 1 ≤ p.d.size ∧ p.d.size ≤ 20) ∧ p.d = s.data.extract p.at_ (p.at_ + p.d.size) ∧ ∀ j, p.at_ ≤ j → j < p.at_ + p.d.size → tat s.told j = false := by
 obtain ⟨⟨_, a⟩, b⟩ := pcsF_mem h.last.1 hp
 exact ⟨a, b⟩
theorem pieces_len (s : EnS) : s.pieces.length ≤ 3 := pcsF_len
theorem EnOk.write {s : EnS} (h : EnOk s) (d : ByteArray) : EnOk (s.write d) := by
 unfold EnS.write
 split
 · exact h
 · rename_i hd
   exact ⟨by show (s.data ++ d).size ≤ 60; rw [ByteArray.size_append]; omega, h.tl, h.my, h.md, h.kn, h.cm, h.ml, h.tt, h.cr, h.rt, h.mc⟩
theorem EnOk.make {s : EnS} (h : EnOk s) : EnOk s.make := by
 refine ⟨h.dz, h.tl, h.my, fun ps hps => ?_, ?_, h.cm, h.ml, h.tt, h.cr, h.rt, h.mc⟩
 · rcases List.mem_append.1 hps with hps | hps
   · exact h.md ps hps
   · rw [List.mem_singleton.1 hps]
     refine ⟨pieces_len s, fun p hp => ?_⟩
     have := (h.piece hp).1
     have := h.last
     omega
 · have := h.kn
   show -1 ≤ s.known ∧ s.known < ((s.made ++ [s.pieces]).length : Nat)
   simp
   omega
theorem EnOk.readOk {s : EnS} (h : EnOk s) (n : Int) : Go.Proofs.YtmfbaijbigodkaaGreatDoor.readE s.W s.L s.C s.R (takeK s.M s.t n) = 0 ∧ s.t + takeK s.M s.t n ≤ 60 := by
 have hk := takeK_le s.M s.t n h.tt
 refine ⟨?_, hk⟩
 obtain ⟨w1, w2, r1, k1, k2, l1, l2, lo, hi⟩ := h.cr
 have hrt := h.rt
 have hle : (takeK s.M s.t n : Int) ≤ s.C - s.R := by
  rcases Nat.eq_zero_or_pos (takeK s.M s.t n) with h0 | h0
  · omega
  · have hr : takeK s.M s.t n ≤ readyN s.M s.t := by unfold takeK; omega
    have := h.mc _ (readyN_some (M := s.M) (t := s.t) (j := takeK s.M s.t n - 1) (by omega))
    omega
 unfold Go.Proofs.YtmfbaijbigodkaaGreatDoor.readE limitN
 have := h.tt
 rw [if_neg (by omega), if_neg (by omega), if_neg (by split <;> omega)]
theorem EnOk.read {s : EnS} (h : EnOk s) (n : Int) : EnOk (s.read n) := by
 unfold EnS.read
 split
 · exact h
 · obtain ⟨h1, h2⟩ := h.readOk n
   obtain ⟨r1, r2, r3⟩ := readE_ok h1
   refine ⟨h.dz, h.tl, h.my, h.md, h.kn, h.cm, h.ml, h2, (limitN_ok s.W s.L s.C s.R _ h.cr r1 r2 r3).1, ?_, h.mc⟩
   show s.R + (takeK s.M s.t n : Int) = ((s.t + takeK s.M s.t n : Nat) : Int)
   have := h.rt
   omega
theorem frm_three {f : Frm} (h : frmE f = 0) (hk : f.kind = 3) : f.nums = [ith f.nums 0] ∧ MayBe (ith f.nums 0) ∧ f.data.size ≤ 20 := by
 obtain ⟨_, h2, h3, h4, _⟩ := frmE_out h
 have hl : f.nums.length = 1 := by
  unfold shapeB at h2
  rw [Bool.and_eq_true, if_neg (by omega)] at h2
  have := of_decide_eq_true h2.2
  rw [hk] at this
  have e : manyK 3 = 1 := rfl
  omega
 match hn : f.nums, hl with
 | [x], _ => exact ⟨rfl, h3 x (by rw [hn]; simp), h4⟩
theorem frm_four {f : Frm} (h : frmE f = 0) (hk : f.kind = 4) : f.nums = [ith f.nums 0] ∧ MayBe (ith f.nums 0) := by
 obtain ⟨_, h2, h3, h4, _⟩ := frmE_out h
 have hl : f.nums.length = 1 := by
  unfold shapeB at h2
  rw [Bool.and_eq_true, if_neg (by omega)] at h2
  have := of_decide_eq_true h2.2
  rw [hk] at this
  have e : manyK 4 = 1 := rfl
  omega
 match hn : f.nums, hl with
 | [x], _ => exact ⟨rfl, h3 x (by rw [hn]; simp)⟩
theorem frm_two {f : Frm} (h : frmE f = 0) (hk : f.kind = 2) : rngE (pairs f.nums) = 0 ∧ 0 < (pairs f.nums).length ∧ f.nums.length = 2 * (pairs f.nums).length ∧ (pairs f.nums).length ≤ 12 := by
 obtain ⟨_, h2, h3, h4, h5⟩ := frmE_out h
 unfold shapeB at h2
 rw [Bool.and_eq_true, if_pos hk] at h2
 have := of_decide_eq_true h2.2
 have e := pairs_len f.nums this.2.1
 exact ⟨h5 hk, by omega, by omega, by omega⟩
theorem EnOk.take1 {s : EnS} (h : EnOk s) {f : Frm} (hf : frmE f = 0) : EnOk (s.take1 f) := by
 unfold EnS.take1
 by_cases h2 : f.kind = 2
 · rw [if_pos h2]
   split
   · exact h
   · rename_i hl
     refine ⟨h.dz, by show (tellRs s.made s.told _).length = 60; rw [tellRs_len]; exact h.tl, h.my, h.md, ?_, h.cm, h.ml, h.tt, h.cr, h.rt, h.mc⟩
     have := h.kn
     show -1 ≤ max s.known _ ∧ max s.known _ < (s.made.length : Int)
     omega
 · rw [if_neg h2]
   by_cases h4 : f.kind = 4
   · rw [if_pos h4]
     have hm := (frm_four hf h4).2
     unfold MayBe at hm
     have := h.my
     exact ⟨h.dz, h.tl, by show 0 ≤ max s.may _ ∧ max s.may _ ≤ _; omega, h.md, h.kn, h.cm, h.ml, h.tt, h.cr, h.rt, h.mc⟩
   · rw [if_neg h4]
     by_cases h3 : f.kind = 3
     · rw [if_pos h3]
       split
       · rename_i ht
         have hm := (frm_three hf h3).2
         unfold MayBe at hm
         have hcr := tC_ok (pcEnd f) h.cr
         unfold tC at hcr
         rw [if_pos ht] at hcr
         refine ⟨h.dz, h.tl, h.my, h.md, h.kn, h.cm, by show (putM s.M _ _).length = 60; rw [putM_len]; exact h.ml, h.tt, hcr, h.rt, fun i hi => ?_⟩
         have hi : ((putM s.M (ith f.nums 0) f.data.data.toList).at i).isSome = true := hi
         show (i : Int) < maxN s.C (pcEnd f)
         have hmx : s.C ≤ maxN s.C (pcEnd f) ∧ pcEnd f ≤ maxN s.C (pcEnd f) := by unfold maxN; split <;> omega
         have hlen : f.data.data.toList.length = f.data.size := Array.length_toList
         unfold putM at hi
         split at hi
         · rename_i hp
           have hp2 : (ith f.nums 0).toNat + f.data.size ≤ 60 := by
            unfold putE at hp
            split at hp
            · cases hp
            · split at hp
              · cases hp
              · rw [hlen] at *; omega
           rw [wrN_at (by rw [h.ml, hlen]; exact hp2)] at hi
           split at hi
           · rename_i hj
             rw [hlen] at hj
             unfold pcEnd at hmx ⊢
             omega
           · have := h.mc i hi; omega
         · have := h.mc i hi; omega
       · exact h
     · rw [if_neg h3]; exact h
theorem EnOk.takes {L : List Frm} : ∀ {s : EnS}, EnOk s → (∀ f ∈ L, frmE f = 0) → EnOk (s.takes L).2 := by
 induction L with
 | nil => intro s h _; exact h
 | cons f r ih =>
   intro s h hL
   have h1 := h.take1 (hL f (List.mem_cons_self ..))
   rw [EnS.takes]
   split
   · exact ih h1 (fun g hg => hL g (List.mem_cons_of_mem _ hg))
   · exact h1
theorem addL_ok {L : List Rng} {n : Int} (h : rngE L = 0) (hn : addE L n = 0) : rngE (addL L n) = 0 ∧ addL L n = withL L ⟨n, n⟩ ∧ MayBe n := by
 have e : addL L n = withL L ⟨n, n⟩ := by unfold addL; rw [if_pos hn]
 unfold addE at hn
 rw [if_pos h] at hn
 split at hn
 · rename_i hm
   split at hn
   · cases hn
   · refine ⟨?_, e, mayB_iff.1 hm⟩
     rw [e]
     exact canon_rngE (withL_ok (rngE_canon h) (Int.le_refl n)).1 (by omega) (withL_bound (rngE_ok h) ⟨mayB_iff.1 hm, mayB_iff.1 hm⟩)
 · cases hn
theorem EnOk.pkt {s : EnS} (h : EnOk s) (n : Int) {L : List Frm} (hL : ∀ f ∈ L, frmE f = 0) : EnOk (s.pkt n L) := by
 unfold EnS.pkt
 split
 · exact h
 · split
   · split
     · rename_i hn
       have h1 := h.takes hL
       exact ⟨h1.dz, h1.tl, h1.my, h1.md, h1.kn, (addL_ok h.cm hn).1, h1.ml, h1.tt, h1.cr, h1.rt, h1.mc⟩
     · exact h
   · exact h
theorem openL_ok (b : List UInt8) (next : Int) : ∀ f ∈ openL b next, frmE f = 0 := by
 intro f hf
 unfold openL at hf
 split at hf
 · unfold openF at hf
   cases hr : rdFs b ((bat b 0).toNat + 1) b.length with
   | none => rw [hr] at hf; simp at hf
   | some p =>
     obtain ⟨L, k⟩ := p
     rw [hr] at hf
     simp only at hf
     split at hf
     · simp at hf
     · rename_i hE hx
       by_cases hk : (bat b 0).toNat + 1 ≤ b.length
       · exact (rdFs_inv hk _ L k hr).2.2.1 f (by simpa using hf)
       · have := rdFs_end (b := b) (k := (bat b 0).toNat + 1) (i := 0) (p := (bat b 0).toNat + 1) (L := []) rfl (by omega) b.length (Nat.zero_le _)
         rw [this] at hr
         cases hr
         simp at hf
 · simp at hf
theorem EnOk.take {s : EnS} (h : EnOk s) (b : List UInt8) : EnOk (s.take b) := by
 unfold EnS.take
 split
 · exact h.pkt _ (openL_ok _ _)
 · exact h
theorem frmE_ackF {came : List Rng} (h : rngE came = 0) (h0 : came ≠ []) : frmE ⟨2, unpairs came, ByteArray.empty⟩ = 0 := by
 have hl := rngE_len h
 have hu := unpairs_len came
 have hp : 0 < came.length := List.length_pos_iff.2 h0
 refine frmE_ok (by simp) ?_ ?_ (by simp) (fun _ => by show rngE (pairs (unpairs came)) = 0; rw [pairs_unpairs]; exact h)
 · unfold shapeB
   rw [if_pos rfl]
   show (((2 : Int) == 3 || ByteArray.empty.size == 0) && decide (0 < (unpairs came).length ∧ (unpairs came).length % 2 = 0 ∧ (unpairs came).length ≤ 24)) = true
   have : decide (0 < (unpairs came).length ∧ (unpairs came).length % 2 = 0 ∧ (unpairs came).length ≤ 24) = true := by simp; omega
   rw [this]; rfl
 · show (unpairs came).all mayB = true
   rw [List.all_eq_true]
   intro z hz
   obtain ⟨r, hr, hz⟩ := List.mem_flatMap.1 hz
   obtain ⟨a, b⟩ := rngE_ok h r hr
   simp at hz
   rcases hz with rfl | rfl
   · exact mayB_iff.2 b
   · exact mayB_iff.2 a
theorem frmE_crF {L : Int} (h : MayBe L) : frmE ⟨4, [L], ByteArray.empty⟩ = 0 := by
 refine frmE_ok (by simp) rfl ?_ (by simp) (fun h => by cases h)
 show ([L] : List Int).all mayB = true
 simp [mayB_iff.2 h]
theorem frmE_pcF {p : Pc} (h : p.at_ + p.d.size ≤ 60) (h2 : p.d.size ≤ 20) : frmE (pcFrm p) = 0 := by
 refine frmE_ok (by simp [pcFrm]) rfl ?_ (by simp [pcFrm]; omega) (fun h => by cases h)
 show ([(p.at_ : Int)] : List Int).all mayB = true
 have : MayBe (p.at_ : Int) := by unfold MayBe; omega
 simp [mayB_iff.2 this]
theorem frmsE_of {L : List Frm} (h : ∀ f ∈ L, frmE f = 0) : frmsE L = 0 := by
 induction L with
 | nil => rfl
 | cons f L ih => rw [frmsE, if_pos (h f (List.mem_cons_self ..)), ih (fun g hg => h g (List.mem_cons_of_mem _ hg))]
theorem EnOk.framesOk {s : EnS} (h : EnOk s) : (∀ f ∈ s.frames, frmE f = 0) ∧ s.frames ≠ [] ∧ s.frames.length ≤ 5 ∧ (frmsB s.frames).length ≤ 172 := by
 have hL : MayBe s.L := by
  obtain ⟨w1, w2, r1, k1, k2, l1, l2, lo, hi⟩ := h.cr
  unfold MayBe; omega
 have hps : ∀ p ∈ s.pieces, frmE (pcFrm p) = 0 ∧ (frmB (pcFrm p)).length ≤ 23 := fun p hp => by
  have h1 := (h.piece hp).1
  have h2 := h.last
  refine ⟨frmE_pcF (by omega) h1.2.2, ?_⟩
  have e : frmB (pcFrm p) = byteOf 3 :: (vbytes p.at_ ++ (vbytes p.d.size ++ p.d.data.toList)) := by
   unfold frmB pcFrm
   rw [if_neg (show ¬ (3 : Int) = 2 by decide), if_pos (show (3 : Int) = 3 from rfl)]
   simp [allL]
  rw [e]
  have l1 := vbytes_len1 (n := (p.at_ : Int)) (by omega)
  have l2 := vbytes_len1 (n := (p.d.size : Int)) (by omega)
  have l3 : p.d.data.toList.length = p.d.size := Array.length_toList
  simp only [List.length_cons, List.length_append]
  omega
 have hsum : ∀ (l : List Pc), (∀ p ∈ l, (frmB (pcFrm p)).length ≤ 23) → (frmsB (l.map pcFrm)).length ≤ 23 * l.length := by
  intro l
  induction l with
  | nil => intro _; simp [frmsB]
  | cons p l ih =>
    intro hl
    have h1 := hl p (List.mem_cons_self ..)
    have h2 := ih (fun q hq => hl q (List.mem_cons_of_mem _ hq))
    simp only [List.map_cons, frmsB, List.flatMap_cons, List.length_append, List.length_cons] at h2 ⊢
    omega
 have hp3 := pieces_len s
 have hsm := hsum s.pieces (fun p hp => (hps p hp).2)
 have hcr : (frmB ⟨4, [s.L], ByteArray.empty⟩).length ≤ 5 := by
  have e : frmB ⟨4, [s.L], ByteArray.empty⟩ = byteOf 4 :: vbytes s.L := by
   unfold frmB
   rw [if_neg (show ¬ (4 : Int) = 2 by decide), if_neg (show ¬ (4 : Int) = 3 by decide)]
   simp [allL]
  rw [e]
  have := vbytes_four s.L
  simp only [List.length_cons]; omega
 have hack : (ackFs s.came).length ≤ 1 ∧ (frmsB (ackFs s.came)).length ≤ 98 ∧ ∀ f ∈ ackFs s.came, frmE f = 0 := by
  unfold ackFs
  split
  · simp [frmsB]
  · rename_i h0
    refine ⟨by simp, ?_, fun f hf => by rw [List.mem_singleton.1 hf]; exact frmE_ackF h.cm h0⟩
    have e : frmsB [(⟨2, unpairs s.came, ByteArray.empty⟩ : Frm)] = byteOf 2 :: ackB s.came := by
     unfold frmsB frmB
     simp [pairs_unpairs]
    rw [e]
    have hl := rngE_len h.cm
    have := ackUp_len s.came hl s.came.length
    unfold ackB
    simp only [List.length_cons]; omega
 refine ⟨fun f hf => ?_, by unfold EnS.frames; simp, ?_, ?_⟩
 · unfold EnS.frames at hf
   rcases List.mem_append.1 hf with hf | hf
   · exact hack.2.2 f hf
   · rcases List.mem_cons.1 hf with rfl | hf
     · exact frmE_crF hL
     · obtain ⟨p, hp, rfl⟩ := List.mem_map.1 hf
       exact (hps p hp).1
 · unfold EnS.frames
   simp only [List.length_append, List.length_cons, List.length_map]
   omega
 · unfold EnS.frames
   rw [frmsB_append]
   have e : frmsB (⟨4, [s.L], ByteArray.empty⟩ :: s.pieces.map pcFrm) = frmB ⟨4, [s.L], ByteArray.empty⟩ ++ frmsB (s.pieces.map pcFrm) := rfl
   rw [e]
   simp only [List.length_append]
   omega
theorem EnOk.packetOk {s : EnS} (h : EnOk s) (hm : s.made.length ≤ 1000000) : pktE s.made.length s.known s.frames = 0 ∧ NeedOk s.made.length s.known ∧ s.packet.length ≤ 177 := by
 obtain ⟨f1, f2, f3, f4⟩ := h.framesOk
 have hk := h.kn
 have hN : NeedOk (s.made.length : Int) s.known := ⟨⟨by omega, by omega⟩, hk.1, hk.2⟩
 obtain ⟨b1, b2⟩ := leastN_bounds ((s.made.length : Int) - s.known)
 have hhd := headB_len (n := (s.made.length : Int)) b1 b2
 have hl : s.packet.length ≤ 177 := by
  unfold EnS.packet pktB
  rw [List.length_append]; omega
 refine ⟨?_, hN, hl⟩
 unfold Go.Proofs.YtmfbaijbigodkaaGreatDoor.pktE
 rw [if_pos hN, if_neg f2, if_neg (by omega), if_pos (frmsE_of f1), if_neg (by unfold EnS.packet at hl; omega)]
structure Thing where
 is : World → List Nat → Prop
 lt : ∀ {w : World} {S : List Nat}, is w S → ∀ k, k ∈ S → k < w.heap.size
 kept : ∀ {w w' : World} {S T : List Nat}, is w S → Out w w' T → (∀ k, k ∈ S → k ∉ T) → is w' S
def Leaves (w w' : World) (S : List Nat) (t : Thing) : Prop := ∃ S', t.is w' S' ∧ Out w w' S ∧ ∀ k, k ∈ S' → k ∈ S ∨ w.heap.size ≤ k
theorem Thing.later (t : Thing) {w w' : World} {S : List Nat} (h : t.is w S) (hb : Below w.heap.size w w') : t.is w' S := t.kept h (Out.of_below hb []) (by simp)
theorem Leaves.same {w w' : World} {S : List Nat} {t : Thing} (h : t.is w S) (hb : Below w.heap.size w w') : Leaves w w' S t := ⟨S, t.later h hb, Out.of_below hb S, fun k hk => Or.inl hk⟩
theorem Leaves.drew {w w' : World} {S : List Nat} {t : Thing} (h : Leaves w.drew w' S t) : Leaves w w' S t := by
 obtain ⟨S', h1, h2, h3⟩ := h
 exact ⟨S', h1, h2.of_drew, h3⟩
structure Own (w0 : World) (S0 : List Nat) (w : World) (L : List Thing) : Prop where
 out : Out w0 w S0
 has : ∃ own : Nat → Nat, ∀ (i : Nat) (t : Thing), L[i]? = some t → ∃ S, t.is w S ∧ ∀ k, k ∈ S → own k = i ∧ (k ∈ S0 ∨ w0.heap.size ≤ k)
namespace Own
variable {w0 w w' : World} {S0 : List Nat} {L : List Thing}
theorem start (w : World) : Own w [] w [] := ⟨Out.refl _ _, fun _ => 0, fun i t h => by simp at h⟩
theorem opened {t : Thing} {S : List Nat} (h : t.is w S) : Own w S w [t] := by
 refine ⟨Out.refl _ _, fun _ => 0, fun i t' hi => ?_⟩
 match i, hi with
 | 0, hi =>
   simp only [List.getElem?_cons_zero, Option.some.injEq] at hi
   subst hi
   exact ⟨S, h, fun k hk => ⟨rfl, Or.inl hk⟩⟩
 | i + 1, hi => simp at hi
theorem later (h : Own w0 S0 w L) (hb : Below w.heap.size w w') : Own w0 S0 w' L := by
 obtain ⟨own, ho⟩ := h.has
 refine ⟨h.out.later hb, own, fun i t hi => ?_⟩
 obtain ⟨S, h1, h2⟩ := ho i t hi
 exact ⟨S, t.later h1 hb, h2⟩
theorem drew (h : Own w0 S0 w L) : Own w0 S0 w.drew L := h.later (Since.refl w).drew
theorem drewN (h : Own w0 S0 w L) (n : Nat) : Own w0 S0 (w.drewN n) L := h.later ((Since.refl w).drewN n)
theorem size (h : Own w0 S0 w L) : w0.heap.size ≤ w.heap.size := h.out.size
theorem since (h : Own w0 [] w L) : Since w0 w := h.out.none_
theorem at_ (h : Own w0 S0 w L) (i : Nat) {t : Thing} (hi : L[i]? = some t) : ∃ S, t.is w S ∧ ∀ (w' : World) (t' : Thing), Leaves w w' S t' → Own w0 S0 w' (L.set i t') := by
 obtain ⟨own, ho⟩ := h.has
 obtain ⟨S, h1, h2⟩ := ho i t hi
 have hil : i < L.length := (List.getElem?_eq_some_iff.1 hi).1
 refine ⟨S, h1, fun w' t' hl => ?_⟩
 obtain ⟨S', g1, g2, g3⟩ := hl
 refine ⟨h.out.then' g2 (fun k hk => (h2 k hk).2), fun k => if k < w.heap.size then own k else i, fun j u hj => ?_⟩
 by_cases hji : i = j
 · subst hji
   rw [List.getElem?_set_self hil, Option.some.injEq] at hj
   subst hj
   refine ⟨S', g1, fun k hk => ?_⟩
   rcases g3 k hk with hm | hm
   · exact ⟨(if_pos (t.lt h1 k hm)).trans (h2 k hm).1, (h2 k hm).2⟩
   · exact ⟨if_neg (by omega), Or.inr (Nat.le_trans h.out.size hm)⟩
 · rw [List.getElem?_set_ne hji] at hj
   obtain ⟨Sj, j1, j2⟩ := ho j u hj
   refine ⟨Sj, u.kept j1 g2 (fun k hk hm => hji ((h2 k hm).1.symm.trans (j2 k hk).1)), fun k hk => ?_⟩
   exact ⟨(if_pos (u.lt j1 k hk)).trans (j2 k hk).1, (j2 k hk).2⟩
theorem add (h : Own w0 S0 w L) (hb : Below w.heap.size w w') {t : Thing} {S : List Nat} (ht : t.is w' S) (hn : ∀ k, k ∈ S → w.heap.size ≤ k) : Own w0 S0 w' (L ++ [t]) := by
 obtain ⟨own, ho⟩ := h.has
 refine ⟨h.out.later hb, fun k => if k < w.heap.size then own k else L.length, fun i u hi => ?_⟩
 rcases Nat.lt_trichotomy i L.length with h1 | h1 | h1
 · rw [List.getElem?_append_left h1] at hi
   obtain ⟨Si, j1, j2⟩ := ho i u hi
   exact ⟨Si, u.later j1 hb, fun k hk => ⟨(if_pos (u.lt j1 k hk)).trans (j2 k hk).1, (j2 k hk).2⟩⟩
 · subst h1
   simp only [List.getElem?_append_right (Nat.le_refl _), Nat.sub_self, List.getElem?_cons_zero, Option.some.injEq] at hi
   subst hi
   exact ⟨S, ht, fun k hk => by have := hn k hk; exact ⟨if_neg (by omega), Or.inr (Nat.le_trans h.out.size this)⟩⟩
 · rw [List.getElem?_append_right (by omega)] at hi
   simp only [List.getElem?_singleton] at hi
   split at hi
   · omega
   · cases hi
theorem pick (h : Own w0 S0 w L) (js : List Nat) {L' : List Thing} (hn : js.Nodup) (hL : ∀ (i : Nat) t, L'[i]? = some t → ∃ j, js[i]? = some j ∧ L[j]? = some t) : Own w0 S0 w L' := by
 obtain ⟨own, ho⟩ := h.has
 refine ⟨h.out, fun k => js.idxOf (own k), fun i t hi => ?_⟩
 obtain ⟨j, hj, hjt⟩ := hL i t hi
 obtain ⟨S, h1, h2⟩ := ho j t hjt
 refine ⟨S, h1, fun k hk => ⟨?_, (h2 k hk).2⟩⟩
 obtain ⟨hil, hje⟩ := List.getElem?_eq_some_iff.1 hj
 show js.idxOf (own k) = i
 rw [(h2 k hk).1, ← hje]
 exact hn.idxOf_getElem i hil
theorem take (h : Own w0 S0 w L) (n : Nat) : Own w0 S0 w (L.take n) := by
 obtain ⟨own, ho⟩ := h.has
 refine ⟨h.out, own, fun i t hi => ho i t ?_⟩
 rw [List.getElem?_take] at hi
 split at hi
 · exact hi
 · cases hi
end Own
def Thing.block (g : Nat) (t : TypeId) (cs : Array Value) : Thing where
 is w S := BlockIs w g t cs ∧ S = [g]
 lt h k hk := by rw [h.2, List.mem_singleton] at hk; subst hk; exact h.1.lt
 kept h ho hd := ⟨ho.block' h.1 (hd _ (by rw [h.2]; simp)), h.2⟩
def Thing.lst (E size : Nat) (v : Value) (es : List (List Value)) : Thing where
 is w S := Lst w E size v es ∧ S = blocks v
 lt h k hk := h.1.lt k (by rw [h.2] at hk; exact hk)
 kept h ho hd := ⟨h.1.kept ho (fun k hk => hd k (by rw [h.2]; exact hk)), h.2⟩
def Thing.ex {α : Type} (f : α → Thing) : Thing where
 is w S := ∃ a, (f a).is w S
 lt h k hk := by obtain ⟨a, h⟩ := h; exact (f a).lt h k hk
 kept h ho hd := by obtain ⟨a, h⟩ := h; exact ⟨a, (f a).kept h ho hd⟩
def Thing.with_ (p : Prop) (t : Thing) : Thing where
 is w S := p ∧ t.is w S
 lt h k hk := t.lt h.2 k hk
 kept h ho hd := ⟨h.1, t.kept h.2 ho hd⟩
def Thing.all (L : List Thing) : Thing where
 is w S := (∀ k, k ∈ S → k < w.heap.size) ∧ ∃ own : Nat → Nat, ∀ (i : Nat) (t : Thing), L[i]? = some t → ∃ Si, t.is w Si ∧ ∀ k, k ∈ Si → own k = i ∧ k ∈ S
 lt h k hk := h.1 k hk
 kept h ho hd := by
  obtain ⟨h1, own, h2⟩ := h
  refine ⟨fun k hk => Nat.lt_of_lt_of_le (h1 k hk) ho.size, own, fun i t hi => ?_⟩
  obtain ⟨Si, j1, j2⟩ := h2 i t hi
  exact ⟨Si, t.kept j1 ho (fun k hk => hd k (j2 k hk).2), j2⟩
theorem Own.unfold_ {L : List Thing} {w : World} {S : List Nat} (h : (Thing.all L).is w S) : Own w S w L := by
 obtain ⟨h1, own, h2⟩ := h
 refine ⟨Out.refl _ _, own, fun i t hi => ?_⟩
 obtain ⟨Si, j1, j2⟩ := h2 i t hi
 exact ⟨Si, j1, fun k hk => ⟨(j2 k hk).1, Or.inl (j2 k hk).2⟩⟩
theorem gather {L : List Thing} {w : World} {p : Nat → Nat → Prop} (h : ∀ (i : Nat) (t : Thing), L[i]? = some t → ∃ S, t.is w S ∧ ∀ k, k ∈ S → p i k) : ∃ S' : List Nat, (∀ (i : Nat) (t : Thing), L[i]? = some t → ∃ S, t.is w S ∧ ∀ k, k ∈ S → p i k ∧ k ∈ S') ∧ ∀ k, k ∈ S' → ∃ i, p i k ∧ k < w.heap.size := by
 induction L generalizing p with
 | nil => exact ⟨[], fun i t hi => by simp at hi, by simp⟩
 | cons t L ih =>
   obtain ⟨S', h1, h2⟩ := ih (p := fun i k => p (i + 1) k) (fun i u hi => h (i + 1) u (by simpa using hi))
   obtain ⟨S, hS, hp⟩ := h 0 t rfl
   refine ⟨S ++ S', fun i u hi => ?_, fun k hk => ?_⟩
   · match i, hi with
     | 0, hi =>
       simp only [List.getElem?_cons_zero, Option.some.injEq] at hi
       subst hi
       exact ⟨S, hS, fun k hk => ⟨hp k hk, List.mem_append_left _ hk⟩⟩
     | i + 1, hi =>
       obtain ⟨Si, a, b⟩ := h1 i u (by simpa using hi)
       exact ⟨Si, a, fun k hk => ⟨(b k hk).1, List.mem_append_right _ (b k hk).2⟩⟩
   · rcases List.mem_append.1 hk with hk | hk
     · exact ⟨0, hp k hk, t.lt hS k hk⟩
     · obtain ⟨i, a, b⟩ := h2 k hk
       exact ⟨i + 1, a, b⟩
theorem Own.closed {w0 w : World} {S0 : List Nat} {L : List Thing} (h : Own w0 S0 w L) : Leaves w0 w S0 (Thing.all L) := by
 obtain ⟨own, ho⟩ := h.has
 obtain ⟨S', h1, h2⟩ := gather (p := fun i k => own k = i ∧ (k ∈ S0 ∨ w0.heap.size ≤ k)) ho
 refine ⟨S', ⟨fun k hk => (h2 k hk).choose_spec.2, own, fun i t hi => ?_⟩, h.out, fun k hk => (h2 k hk).choose_spec.1.2⟩
 obtain ⟨S, a, b⟩ := h1 i t hi
 exact ⟨S, a, fun k hk => ⟨(b k hk).1.1, (b k hk).2⟩⟩
theorem Leaves.ex {α : Type} {f : α → Thing} {w w' : World} {S : List Nat} (a : α) (h : Leaves w w' S (f a)) : Leaves w w' S (Thing.ex f) := by
 obtain ⟨S', h1, h2, h3⟩ := h
 exact ⟨S', ⟨a, h1⟩, h2, h3⟩
theorem Leaves.with_ {p : Prop} {t : Thing} {w w' : World} {S : List Nat} (hp : p) (h : Leaves w w' S t) : Leaves w w' S (Thing.with_ p t) := by
 obtain ⟨S', h1, h2, h3⟩ := h
 exact ⟨S', ⟨hp, h1⟩, h2, h3⟩
theorem Leaves.block {w w' : World} {g : Nat} {t : TypeId} {cs : Array Value} (hb : BlockIs w' g t cs) (ho : Out w w' [g]) : Leaves w w' [g] (Thing.block g t cs) := ⟨[g], ⟨hb, rfl⟩, ho, fun k hk => Or.inl hk⟩
namespace Own
variable {w0 w w' : World} {S0 : List Nat} {L : List Thing}
theorem blk (h : Own w0 S0 w L) (i : Nat) {g : Nat} {t : TypeId} {cs : Array Value} (hi : L[i]? = some (Thing.block g t cs)) : BlockIs w g t cs := by
 obtain ⟨S, h1, _⟩ := h.at_ i hi
 exact h1.1
theorem ls (h : Own w0 S0 w L) (i : Nat) {E size : Nat} {v : Value} {es : List (List Value)} (hi : L[i]? = some (Thing.lst E size v es)) : Lst w E size v es := by
 obtain ⟨S, h1, _⟩ := h.at_ i hi
 exact h1.1
theorem put (h : Own w0 S0 w L) (i : Nat) {g : Nat} {t : TypeId} {cs : Array Value} (hi : L[i]? = some (Thing.block g t cs)) (j : Nat) (u : Value) : Own w0 S0 (w.setCell ⟨g, j, none⟩ u) (L.set i (Thing.block g t (cs.setIfInBounds j u))) := by
 obtain ⟨S, ⟨h1, rfl⟩, h2⟩ := h.at_ i hi
 exact h2 _ _ (Leaves.block (h1.put j u) ((Out.refl w _).put (p := ⟨g, j, none⟩) (Or.inl (by simp)) u))
theorem alloc (h : Own w0 S0 w L) (t : TypeId) (cs : Array Value) : Own w0 S0 (w.alloc (.cells cs t)) (L ++ [Thing.block w.heap.size t cs]) :=
 h.add ((Since.refl w).alloc _) (S := [w.heap.size]) ⟨BlockIs.fresh _ _ _, rfl⟩ (by simp)
theorem alike (h : Own w0 S0 w L) (i : Nat) {t t' : Thing} (hi : L[i]? = some t) (f : ∀ S, t.is w S → t'.is w S) : Own w0 S0 w (L.set i t') := by
 obtain ⟨S, h1, h2⟩ := h.at_ i hi
 exact h2 w t' ⟨S, f S h1, Out.refl _ _, fun k hk => Or.inl hk⟩
theorem fact (h : Own w0 S0 w L) (i : Nat) {t : Thing} {p : Prop} (hi : L[i]? = some (Thing.with_ p t)) : p := by
 obtain ⟨S, h1, h2⟩ := h.at_ i hi
 exact h1.1
theorem unex (h : Own w0 S0 w L) (i : Nat) {α : Type} {f : α → Thing} (hi : L[i]? = some (Thing.ex f)) : ∃ a, Own w0 S0 w (L.set i (f a)) := by
 obtain ⟨S, ⟨a, h1⟩, h2⟩ := h.at_ i hi
 exact ⟨a, h2 w (f a) ⟨S, h1, Out.refl _ _, fun k hk => Or.inl hk⟩⟩
theorem unwith (h : Own w0 S0 w L) (i : Nat) {p : Prop} {t : Thing} (hi : L[i]? = some (Thing.with_ p t)) : p ∧ Own w0 S0 w (L.set i t) :=
 ⟨h.fact i hi, h.alike i hi (fun S hS => hS.2)⟩
end Own
def isV (o : Option UInt8) : Value := .bool o.isSome
def byV (o : Option UInt8) : Value := .int .u8 ((o.getD 0).toNat : Int)
def strCells (M : Plc) (t : Nat) : Array Value := (M.map isV ++ (M.map byV ++ [Value.int .i64 (t : Int)])).toArray
theorem strCells_is {M : Plc} (hM : M.length = 60) (t : Nat) {i : Nat} (h : i < 60) : (strCells M t)[i]? = some (.bool (M.at i).isSome) := by
 unfold strCells
 rw [List.getElem?_toArray, List.getElem?_append_left (by rw [List.length_map]; omega), List.getElem?_map]
 unfold Plc.at
 rw [List.getElem?_eq_getElem (by omega)]
 simp [List.getD, List.getElem?_eq_getElem (show i < M.length by omega), isV]
theorem strCells_by {M : Plc} (hM : M.length = 60) (t : Nat) {i : Nat} (h : i < 60) : (strCells M t)[60 + i]? = some (.int .u8 (((M.at i).getD 0).toNat : Int)) := by
 unfold strCells
 rw [List.getElem?_toArray, List.getElem?_append_right (by rw [List.length_map]; omega), List.length_map, hM, Nat.add_sub_cancel_left, List.getElem?_append_left (by rw [List.length_map]; omega), List.getElem?_map]
 unfold Plc.at
 rw [List.getElem?_eq_getElem (by omega)]
 simp [List.getD, List.getElem?_eq_getElem (show i < M.length by omega), byV]
theorem strCells_taken {M : Plc} (hM : M.length = 60) (t : Nat) : (strCells M t)[120]? = some (.int .i64 (t : Int)) := by
 unfold strCells
 rw [List.getElem?_toArray, List.getElem?_append_right (by rw [List.length_map]; omega), List.length_map, hM, List.getElem?_append_right (by rw [List.length_map]; omega), List.length_map, hM]
 rfl
theorem strCells_put {M : Plc} (hM : M.length = 60) (t : Nat) {i : Nat} (h : i < 60) (b : UInt8) :
  ((strCells M t).setIfInBounds i (.bool true)).setIfInBounds (60 + i) (.int .u8 (b.toNat : Int)) = strCells (M.set i (some b)) t := by
 unfold strCells
 rw [List.setIfInBounds_toArray, List.setIfInBounds_toArray, List.set_append_left _ _ (by rw [List.length_map]; omega), List.set_append_right _ _ (by simp [hM]), List.length_set, List.length_map, hM, Nat.add_sub_cancel_left, List.set_append_left _ _ (by rw [List.length_map]; omega), List.map_set, List.map_set]
 rfl
theorem strCells_take {M : Plc} (hM : M.length = 60) (t t' : Nat) : (strCells M t).setIfInBounds 120 (.int .i64 (t' : Int)) = strCells M t' := by
 unfold strCells
 rw [List.setIfInBounds_toArray, List.set_append_right _ _ (by rw [List.length_map]; omega), List.length_map, hM, List.set_append_right _ _ (by rw [List.length_map]; omega), List.length_map, hM]
 rfl
structure Sz (w : World) (g : Nat) (M : Plc) (t : Nat) : Prop where
 bl : BlockIs w g 146 (strCells M t)
 len : M.length = 60
 most : t ≤ 60
theorem Sz.later {w w1 : World} {g : Nat} {M : Plc} {t : Nat} (h : Sz w g M t) (hb : Below w.heap.size w w1) : Sz w1 g M t := ⟨h.bl.later hb, h.len, h.most⟩
theorem Sz.kept {w w1 : World} {g : Nat} {M : Plc} {t : Nat} {S : List Nat} (h : Sz w g M t) (hg : Out w w1 S) (h1 : g ∉ S) : Sz w1 g M t := ⟨hg.block' h.bl h1, h.len, h.most⟩
theorem Sz.drewN {w : World} {g : Nat} {M : Plc} {t : Nat} (h : Sz w g M t) (n : Nat) : Sz (w.drewN n) g M t := ⟨h.bl, h.len, h.most⟩
theorem Sz.is {w : World} {g : Nat} {M : Plc} {t : Nat} (h : Sz w g M t) {i : Nat} (hi : i < 60) : w.cell? ⟨g, i, none⟩ = some (.bool (M.at i).isSome) := (h.bl.cell i).trans (strCells_is h.len t hi)
theorem Sz.by_ {w : World} {g : Nat} {M : Plc} {t : Nat} (h : Sz w g M t) {i : Nat} (hi : i < 60) : w.cell? ⟨g, 60 + i, none⟩ = some (.int .u8 (((M.at i).getD 0).toNat : Int)) := (h.bl.cell _).trans (strCells_by h.len t hi)
theorem Sz.taken {w : World} {g : Nat} {M : Plc} {t : Nat} (h : Sz w g M t) : w.cell? ⟨g, 120, none⟩ = some (.int .i64 (t : Int)) := (h.bl.cell _).trans (strCells_taken h.len t)
theorem Sz.put {w : World} {g : Nat} {M : Plc} {t : Nat} (h : Sz w g M t) {i : Nat} (hi : i < 60) (b : UInt8) : Sz ((w.setCell ⟨g, i, none⟩ (.bool true)).setCell ⟨g, 60 + i, none⟩ (.int .u8 (b.toNat : Int))) g (M.set i (some b)) t := by
 refine ⟨?_, by rw [List.length_set]; exact h.len, h.most⟩
 rw [← strCells_put h.len t hi b]
 exact (h.bl.put i _).put (60 + i) _
theorem Sz.take {w : World} {g : Nat} {M : Plc} {t t' : Nat} (h : Sz w g M t) (ht : t' ≤ 60) : Sz (w.setCell ⟨g, 120, none⟩ (.int .i64 (t' : Int))) g M t' := by
 refine ⟨?_, h.len, ht⟩
 rw [← strCells_take h.len t t']
 exact h.bl.put 120 _
theorem snew (w : World) : Calls Tryz.prog 41 #[] w fun e w' => e = .returned (.pointer (some ⟨w.heap.size, 0, none⟩)) ∧ Sz w' w.heap.size Plc.new 0 ∧ Below w.heap.size w w' := by
 go_enter Tryz.func41, Tryz.ntmps41
 go_wp2
 go_ret
 refine ⟨rfl, ⟨?_, Plc.new_len, by decide⟩, (Below.refl _ _).alloc (Nat.le_refl _) _⟩
 exact BlockIs.fresh _ _ _
theorem sready (g : Nat) (M : Plc) (t : Nat) (w : World) (h : Sz w g M t) :
  Calls Tryz.prog 65 #[.pointer (some ⟨g, 0, none⟩)] w fun e w' => e = .returned (.int .i64 (readyN M t)) ∧ Below w.heap.size w w' := by
 have H := Lib.hid h
 have ht := h.most
 clear h
 go_enter Tryz.func65, Tryz.ntmps65
 go_wp2_with fail
 go_loopw [3] (fun s3 wr => ∃ n : Nat, s3 = .int .i64 n ∧ t + n ≤ 60 ∧ Hid (∀ j, j < n → (M.at (t + j)).isSome = true) ∧ Since w wr) (fun s3 _ => 60 - t - (intOf s3).toNat)
 case atStart => exact ⟨0, rfl, by omega, Lib.hid (fun j hj => by omega), Since.refl _⟩
 case round =>
  obtain ⟨n, rfl, hn, HS, hs⟩ := hrel
  have c0 : wr.cell? ⟨g, 120, none⟩ = some (.int .i64 (t : Int)) := (H.out.later hs).taken
  by_cases hlt : t + n < 60
  case neg =>
   have e : readyN M t = n := readyN_eq HS.out hn (Or.inr (by omega))
   have hlt' : decide ((t : Int) + (n : Int) < 60) = false := by simp; omega
   have E := Lib.hid e
   clear e
   go_wp2_with fail
   go_quiet (fail)
   go_wp2_with fail
   go_ret
   exact ⟨by rw [E.out]; rfl, (by exact Since.drewN hs _)⟩
  have hlt' : decide ((t : Int) + (n : Int) < 60) = true := by simp; omega
  have c1 : wr.cell? ⟨g, t + n, none⟩ = some (.bool (M.at (t + n)).isSome) := (H.out.later hs).is hlt
  have lg := (H.out.later hs).bl.lt
  obtain ⟨b, hb⟩ : ∃ b, (M.at (t + n)).isSome = b := ⟨_, rfl⟩
  rw [hb] at c1
  have HB := Lib.hid hb
  have hlt2 : (t : Int) + (n : Int) < 60 := by omega
  clear hb
  cases b with
  | false =>
    have E : Hid (readyN M t = n) := Lib.hid (readyN_eq HS.out hn (Or.inl HB.out))
    go_wp2_with fail
    go_quiet (fail)
    go_wp2_with fail
    go_ret
    exact ⟨by rw [E.out]; rfl, (by exact Since.drewN hs _)⟩
  | true =>
    go_wp2_with fail
    go_quiet (fail)
    go_wp2_with fail
    go_roundw
    case rel => exact ⟨n + 1, by go_num, by omega, Lib.hid (fun j hj => by
     rcases Nat.lt_succ_iff_lt_or_eq.1 hj with h1 | h1
     · exact HS.out j h1
     · rw [h1]; exact HB.out), (by exact Since.drewN hs _)⟩
    case measure => simp [intOf]; omega
theorem sput (g : Nat) (M : Plc) (t : Nat) (x : Int) (d : ByteArray) (w : World) (h : Sz w g M t) (hd : d.size ≤ 140737488351232) :
  Calls Tryz.prog 103 #[.pointer (some ⟨g, 0, none⟩), .agg #[.int .i64 x, .string d]] w fun e w' => e = .returned (errV (putE M x d.data.toList)) ∧ Sz w' g (putM M x d.data.toList) t ∧ Out w w' [g] := by
 have H := Lib.hid h
 have ht := h.most
 have lg := h.bl.lt
 have hlen : d.data.toList.length = d.size := Array.length_toList
 have hB : BlockIs (w.alloc (.cells #[.int .i64 x, .string d] 98)) w.heap.size 98 #[.int .i64 x, .string d] := BlockIs.fresh _ _ _
 clear h
 by_cases hx : 0 ≤ x ∧ x ≤ 60
 case neg =>
  have E : Hid (putE M x d.data.toList = 1) := Lib.hid (by unfold putE; rw [if_pos (by omega)])
  have EM : Hid (putM M x d.data.toList = M) := Lib.hid (by unfold putM; rw [E.out, if_neg (by decide)])
  clear hlen
  by_cases h0 : x < 0
  · clear hx
    go_enter Tryz.func103, Tryz.ntmps103
    go_wp2_with fail
    go_ret
    exact ⟨by rw [E.out]; rfl, by rw [EM.out]; exact H.out.later (by exact Since.alloc (Since.refl _) _), Out.of_below (by exact Since.alloc (Since.refl _) _) _⟩
  · have h0' : decide (x < 0) = false := by simpa using h0
    have h1 : decide (60 < x) = true := by simp; omega
    clear hx
    go_enter Tryz.func103, Tryz.ntmps103
    go_wp2_with fail
    go_ret
    exact ⟨by rw [E.out]; rfl, by rw [EM.out]; exact H.out.later (by exact Since.alloc (Since.refl _) _), Out.of_below (by exact Since.alloc (Since.refl _) _) _⟩
 obtain ⟨x0, x1⟩ := hx
 obtain ⟨a, rfl⟩ := Int.eq_ofNat_of_zero_le x0
 have h0' : decide ((a : Int) < 0) = false := by simp
 have h1' : decide (60 < (a : Int)) = false := by simp; omega
 by_cases hf : 60 < a + d.size
 · have E : Hid (putE M a d.data.toList = 4) := Lib.hid (by unfold putE; rw [if_neg (by omega), if_pos (by rw [hlen]; omega)])
   have EM : Hid (putM M a d.data.toList = M) := Lib.hid (by unfold putM; rw [E.out, if_neg (by decide)])
   have h2 : decide (60 < (a : Int) + (d.size : Int)) = true := by simp; omega
   clear hlen
   go_enter Tryz.func103, Tryz.ntmps103
   go_wp2_with fail
   go_ret
   exact ⟨by rw [E.out]; rfl, by rw [EM.out]; exact H.out.later (by exact Since.alloc (Since.refl _) _), Out.of_below (by exact Since.alloc (Since.refl _) _) _⟩
 have h2 : decide (60 < (a : Int) + (d.size : Int)) = false := by simp; omega
 have E : Hid (putE M a d.data.toList = if clashN M a d.data.toList d.size = true then 7 else 0) := Lib.hid (by unfold putE; rw [if_neg (by omega), if_neg (by rw [hlen]; omega), hlen]; rfl)
 have hn : a + d.size ≤ 60 := by omega
 have HLEN := Lib.hid hlen
 clear hlen hf
 go_enter Tryz.func103, Tryz.ntmps103
 go_wp2_with fail
 go_loopw [5, 6, 30] (fun s5 s6 s30 wr => ∃ i : Nat, s30 = .int .i64 i ∧ i ≤ d.size ∧ clashN M a d.data.toList i = false ∧ BlockIs wr w.heap.size 98 #[.int .i64 a, .string d] ∧ Since w wr) (fun s5 s6 s30 _ => d.size - (intOf s30).toNat)
 case atStart => exact ⟨0, rfl, Nat.zero_le _, rfl, hB, (by exact Since.alloc (Since.refl _) _)⟩
 case round =>
  obtain ⟨i, rfl, hi, hc, hB, hs⟩ := hrel
  have HC := Lib.hid hc
  have a0 : wr.cell? ⟨w.heap.size, 0, none⟩ = some (.int .i64 a) := hB.cell 0
  have a1 : wr.cell? ⟨w.heap.size, 1, none⟩ = some (.string d) := hB.cell 1
  clear hc
  by_cases hlt : i < d.size
  case neg =>
   have hi2 : i = d.size := by omega
   subst hi2
   have E0 : Hid (putE M a d.data.toList = 0) := Lib.hid (by rw [E.out, HC.out]; rfl)
   have EM : Hid (putM M a d.data.toList = wrN M a d.data.toList d.size) := Lib.hid (by unfold putM; rw [E0.out, if_pos rfl, HLEN.out]; rfl)
   have hlt' : decide ((d.size : Int) < (d.size : Int)) = false := by simp
   go_wp2_with fail
   obtain ⟨wo, rfl⟩ : ∃ wo : World, wo = wr := ⟨_, rfl⟩
   go_loopw [7, 61] (fun s7 s61 wr => ∃ i : Nat, s61 = .int .i64 i ∧ i ≤ d.size ∧ BlockIs wr w.heap.size 98 #[.int .i64 a, .string d] ∧ Sz wr g (wrN M a d.data.toList i) t ∧ Out w wr [g]) (fun s7 s61 _ => d.size - (intOf s61).toNat)
   case atStart => exact ⟨0, rfl, Nat.zero_le _, hB, H.out.later hs, Out.of_below hs _⟩
   case round =>
    obtain ⟨i, rfl, hi, hB, hz, ho⟩ := hrel
    have a0 : wr.cell? ⟨w.heap.size, 0, none⟩ = some (.int .i64 a) := hB.cell 0
    have a1 : wr.cell? ⟨w.heap.size, 1, none⟩ = some (.string d) := hB.cell 1
    have HZ := Lib.hid hz
    have HOO := Lib.hid ho
    have hlb := hB.lt
    have hlg := hz.bl.lt
    clear hz ho
    by_cases hlt : i < d.size
    case neg =>
     obtain rfl : i = d.size := by omega
     go_wp2_with fail
     go_ret
     exact ⟨by rw [E0.out]; rfl, by rw [EM.out]; exact HZ.out, HOO.out⟩
    clear hlt'
    have hlt' : (i : Int) < (d.size : Int) := by omega
    have hai : a + i < 60 := by omega
    have hai' : (a : Int) + (i : Int) < 60 := by omega
    have c0 := HZ.out.is hai
    have c1 := HZ.out.by_ hai
    generalize ((wrN M a d.data.toList i).at (a + i)).isSome = ob at c0
    generalize (((wrN M a d.data.toList i).at (a + i)).getD 0).toNat = oy at c1
    have f0 := HZ.out.bl.free
    have hw : IntKind.i64.wrap ((a : Int) + (i : Int)) = ((a + i : Nat) : Int) := by rw [IntWalk.i64_in _ (by omega)]; rfl
    go_wp2_with fail
    go_region
    all_goals
     go_wp2_with fail
     have hO : Out wr ((wr.setCell ⟨g, a + i, none⟩ (.bool true)).setCell ⟨g, 60 + (a + i), none⟩ (.int .u8 (d[i].toNat : Int))) [g] := (((Out.refl wr [g])).put (p := ⟨g, a + i, none⟩) (Or.inl (by simp)) _).put (p := ⟨g, 60 + (a + i), none⟩) (Or.inl (by simp)) _
     have hP := HZ.out.put hai d[i]
     have hset : wrN M a d.data.toList (i + 1) = (wrN M a d.data.toList i).set (a + i) (some d[i]) := by rw [← bth_get hlt]; rfl
     have hgw : w.heap.size ∉ [g] := by simp; omega
     go_roundw
     case rel => exact ⟨i + 1, by go_num, by omega, hO.block' hB hgw, by rw [hset]; exact ⟨hP.bl, hP.len, hP.most⟩, HOO.out.trans (by first | exact hO | exact hO.drew | exact ⟨hO.os, hO.tape, hO.output, hO.size, hO.block⟩)⟩
     case measure => simp [intOf]; omega
  have hlt' : (i : Int) < (d.size : Int) := by omega
  have hai : a + i < 60 := by omega
  have c0 : wr.cell? ⟨g, a + i, none⟩ = some (.bool (M.at (a + i)).isSome) := (H.out.later hs).is hai
  have c1 : wr.cell? ⟨g, 60 + (a + i), none⟩ = some (.int .u8 (((M.at (a + i)).getD 0).toNat : Int)) := (H.out.later hs).by_ hai
  have hai' : (a : Int) + (i : Int) < 60 := by omega
  have hlb := hB.lt
  have hlg := (H.out.later hs).bl.lt
  obtain ⟨o, ho⟩ : ∃ o, M.at (a + i) = o := ⟨_, rfl⟩
  rw [ho] at c0 c1
  have HO := Lib.hid ho
  clear ho
  cases o with
  | none =>
    simp only [Option.isSome_none] at c0
    have HC1 : Hid (clashN M a d.data.toList (i + 1) = false) := Lib.hid (clashN_miss HC.out (fun y hy => by rw [HO.out] at hy; cases hy))
    go_wp2_with fail
    go_quiet (fail)
    go_wp2_with fail
    go_roundw
    case rel => exact ⟨i + 1, by go_num, by omega, HC1.out, hB, (by exact Since.drewN hs _)⟩
    case measure => simp [intOf]; omega
  | some y =>
    simp only [Option.isSome_some, Option.getD_some] at c0 c1
    by_cases hy : y = d[i]
    · have HC1 : Hid (clashN M a d.data.toList (i + 1) = false) := Lib.hid (clashN_miss HC.out (fun z hz => by rw [HO.out] at hz; rw [bth_get hlt, ← hy]; exact (Option.some.inj hz).symm))
      have hq : ((y.toNat : Int) != (d[i].toNat : Int)) = false := by rw [hy]; simp
      clear hy
      go_wp2_with fail
      go_quiet (fail)
      go_wp2_with fail
      go_roundw
      case rel => exact ⟨i + 1, by go_num, by omega, HC1.out, hB, (by exact Since.drewN hs _)⟩
      case measure => simp [intOf]; omega
    · have E7 : Hid (putE M a d.data.toList = 7) := Lib.hid (by rw [E.out, if_pos (clashN_hit hlt HO.out (by rw [bth_get hlt]; exact hy))])
      have EM : Hid (putM M a d.data.toList = M) := Lib.hid (by unfold putM; rw [E7.out, if_neg (by decide)])
      have hq : ((y.toNat : Int) != (d[i].toNat : Int)) = true := by
       simp
       intro he
       exact hy (UInt8.toNat_inj.1 (by omega))
      clear hy
      go_wp2_with fail
      go_quiet (fail)
      go_wp2_with fail
      go_ret
      exact ⟨by rw [E7.out]; rfl, by rw [EM.out]; exact H.out.later (by exact Since.drewN hs _), Out.of_below (by exact Since.drewN hs _) _⟩
theorem addr_off (g o i : Nat) : (⟨g, o, none⟩ : Addr).add i = ⟨g, o + i, none⟩ := by
 unfold Addr.add
 split
 · rename_i h; rw [h]; rfl
 · rfl
theorem conv_at {W : World} {g o n c : Nat} {bs : List UInt8} (hn : bs.length = n) (h : ∀ (j : Nat) b, bs[j]? = some b → W.cell? ⟨g, o + j, none⟩ = some (.int .u8 (b.toNat : Int))) :
  (convert 131 9 (.slice (some ⟨g, o, none⟩) n c)).run Tryz.prog W = .ok (.string ⟨bs.toArray⟩) W := by
 subst hn
 rw [run_convert_bytes_string W 131 9 5 (some ⟨g, o, none⟩) bs.length c Tryz.underlying131 Tryz.underlying5 Tryz.underlying9]
 have hl := run_loadCells_list (P := Tryz.prog) W ⟨g, o, none⟩ ((bs.map fun b => (b.toNat : Int)).map (Value.int .u8)) (fun j v hj => by
  rw [addr_off]
  simp only [List.getElem?_map, Option.map_map] at hj
  cases hb : bs[j]? with
  | none => rw [hb] at hj; simp at hj
  | some b => rw [hb] at hj; simp at hj; rw [← hj]; exact h j b hb)
 simp only [List.length_map] at hl
 rw [run_bytesToString W ⟨g, o, none⟩ bs.length c (bs.map fun b => (b.toNat : Int)) hl]
 have e : ∀ (l : List UInt8) (r : ByteArray), (l.map fun b => (b.toNat : Int)).foldl (fun r n => r.push (UInt8.ofNat n.toNat)) r = ⟨r.data ++ l.toArray⟩ := by
  intro l
  induction l with
  | nil => intro r; simp
  | cons x l ih => intro r; rw [List.map_cons, List.foldl_cons, ih]; simp [ByteArray.push]
 rw [e bs]
 have he0 : ByteArray.empty.data = #[] := rfl
 rw [he0]
 simp
theorem conv_none {W : World} {c : Nat} : (convert 131 9 (.slice none 0 c)).run Tryz.prog W = .ok (.string ⟨#[]⟩) W := by
 rw [run_convert_bytes_string W 131 9 5 none 0 c Tryz.underlying131 Tryz.underlying5 Tryz.underlying9]
 rfl
def stkE (x : Int) : Int := if x < 0 then 1 else 0
def takeS (M : Plc) (t : Nat) (x : Int) : ByteArray := ⟨(cutL M t (takeK M t x)).toArray⟩
theorem takeK_neg {M : Plc} {t : Nat} {x : Int} (h : x < 0) : takeK M t x = 0 := by unfold takeK; omega
theorem takeS_neg {M : Plc} {t : Nat} {x : Int} (h : x < 0) : takeS M t x = ⟨#[]⟩ := by unfold takeS; rw [takeK_neg h]; rfl
theorem stake (g : Nat) (M : Plc) (t : Nat) (x : Int) (w : World) (h : Sz w g M t) :
  Calls Tryz.prog 46 #[.pointer (some ⟨g, 0, none⟩), .int .i64 x] w fun e w' => e = .returned (.tuple #[.string (takeS M t x), errV (stkE x)]) ∧ Sz w' g M (t + takeK M t x) ∧ Out w w' [g] := by
 have H := Lib.hid h
 have ht := h.most
 have lg := h.bl.lt
 have c0 := h.taken
 have f0 := h.bl.free
 have hr := readyN_le M t ht
 clear h
 by_cases hx : x < 0
 · have E : Hid (stkE x = 1) := Lib.hid (by unfold stkE; rw [if_pos hx])
   have ES := Lib.hid (takeS_neg (M := M) (t := t) hx)
   have EK := Lib.hid (takeK_neg (M := M) (t := t) hx)
   go_enter Tryz.func46, Tryz.ntmps46
   go_wp2_with fail
   go_ret2
   exact ⟨by rw [E.out, ES.out]; rfl, by rw [EK.out]; exact H.out, Out.refl _ _⟩
 have E : Hid (stkE x = 0) := Lib.hid (by unfold stkE; rw [if_neg hx])
 obtain ⟨k, hk⟩ : ∃ k, takeK M t x = k := ⟨_, rfl⟩
 have hkr : k ≤ readyN M t := by rw [← hk]; unfold takeK; omega
 have hmin : Hid ((if (readyN M t : Int) < x then (readyN M t : Int) else x) = (k : Int)) := Lib.hid (by rw [← hk]; unfold takeK; split <;> omega)
 have HK := Lib.hid hk
 have hx' : decide (x < 0) = false := by simpa using hx
 have htk : t + k ≤ 60 := by omega
 clear hk
 go_enter Tryz.func46, Tryz.ntmps46
 go_wp2_with fail
 have hF : ∀ w1 : World, Sz w1 g M t → w1.cell? ⟨g, 120, none⟩ = some (.int .i64 (t : Int)) ∧ (∀ i, w1.frozen? ⟨g, i, none⟩ = false) ∧ g < w1.heap.size := fun w1 h => ⟨h.taken, h.bl.free, h.bl.lt⟩
 have hm1 := hmin.out
 have hm2 : min x (readyN M t : Int) = (k : Int) := by have := hmin.out; split at this <;> omega
 have hm3 : min (readyN M t : Int) x = (k : Int) := by have := hmin.out; split at this <;> omega
 have hw : IntKind.i64.wrap ((t : Int) + (k : Int)) = ((t + k : Nat) : Int) := by rw [IntWalk.i64_in _ (by omega)]; rfl
 go_region_law (first | (go_simp; go_at_call 65; refine (sready g M t _ ?_).mono ?_; (first | exact H.out | exact H.out.drewN 1); rintro e w1 ⟨rfl, hb1⟩; have hs1 : Since w w1 := (by first | exact (Since.refl w).later hb1 | exact (Since.refl w).drew.later hb1); obtain ⟨d0, fz, ld⟩ := hF w1 (H.out.later hs1)))
 all_goals
  have HZ : Hid (Sz (w1.setCell ⟨g, 120, none⟩ (.int .i64 ((t : Int) + (k : Int)))) g M (t + k)) := Lib.hid ((H.out.later hs1).take htk)
  have HO : Hid (Out w (w1.setCell ⟨g, 120, none⟩ (.int .i64 ((t : Int) + (k : Int)))) [g]) := Lib.hid ((Out.of_below hs1 [g]).put (p := ⟨g, 120, none⟩) (Or.inl (by simp)) _)
  clear d0 fz ld
  generalize w1.setCell ⟨g, 120, none⟩ (.int .i64 ((t : Int) + (k : Int))) = w2 at *
  have d0 : w2.cell? ⟨g, 120, none⟩ = some (.int .i64 ((t : Int) + (k : Int))) := HZ.out.taken
  have ld := HZ.out.bl.lt
  have hcv : ∀ c n, (convert 131 9 (.slice (some ⟨g, 60 + t, none⟩) k c)).run Tryz.prog (w2.drewN n) = .ok (.string (takeS M t x)) (w2.drewN n) := by
   intro c n
   have h1 := conv_at (W := w2.drewN n) (g := g) (o := 60 + t) (n := k) (c := c) (bs := cutL M t k) (cutL_len M t k) (fun j b hj => by
    have hjk : j < k := by
     have := (List.getElem?_eq_some_iff.1 hj).1
     rw [cutL_len] at this
     exact this
    rw [cutL_get hjk] at hj
    have h2 := (HZ.out.drewN n).by_ (i := t + j) (by omega)
    rw [Option.some.inj hj] at h2
    rw [Nat.add_assoc]
    exact h2)
   rw [h1]
   unfold takeS
   rw [HK.out]
  have hE : ∀ n, (convert 131 9 (.slice (some (if 60 = t then (⟨g, 60, none⟩ : Addr) else ⟨g, 60 + t, none⟩)) (t + k - t) (60 - t))).run Tryz.prog (w2.drewN n) = .ok (.string (takeS M t x)) (w2.drewN n) := by
   intro n
   rw [Nat.add_sub_cancel_left]
   by_cases h60 : 60 = t
   · have hk0 : k = 0 := by omega
     have h1 := conv_at (W := w2.drewN n) (g := g) (o := 60) (n := 0) (c := 60 - t) (bs := []) rfl (fun j b hj => by simp at hj)
     have e1 : takeS M t x = ⟨#[]⟩ := by unfold takeS; rw [HK.out, hk0]; rfl
     rw [e1, hk0, if_pos h60]
     exact h1
   · rw [if_neg h60]
     exact hcv _ n
  have hc0 : (convert 131 9 (.slice (some (if 60 = t then (⟨g, 60, none⟩ : Addr) else ⟨g, 60 + t, none⟩)) (t + k - t) (60 - t))).run Tryz.prog w2 = .ok (.string (takeS M t x)) w2 := hE 0
  have hc1 : (convert 131 9 (.slice (some (if 60 = t then (⟨g, 60, none⟩ : Addr) else ⟨g, 60 + t, none⟩)) (t + k - t) (60 - t))).run Tryz.prog w2.drew = .ok (.string (takeS M t x)) w2.drew := hE 1
  have hc2 : (convert 131 9 (.slice (some (if 60 = t then (⟨g, 60, none⟩ : Addr) else ⟨g, 60 + t, none⟩)) (((t : Int) + (k : Int)).toNat - t) (60 - t))).run Tryz.prog w2 = .ok (.string (takeS M t x)) w2 := hE 0
  have hc3 : (convert 131 9 (.slice (some (if 60 = t then (⟨g, 60, none⟩ : Addr) else ⟨g, 60 + t, none⟩)) (((t : Int) + (k : Int)).toNat - t) (60 - t))).run Tryz.prog w2.drew = .ok (.string (takeS M t x)) w2.drew := hE 1
  have hs0 : (0 : Int) ≤ (t : Int) := by omega
  have hs1 : (t : Int) ≤ (t : Int) + (k : Int) := by omega
  have hs2 : (t : Int) + (k : Int) ≤ 60 := by omega
  clear hcv hE
  go_wp2_with fail
  go_region
  all_goals
   go_wp2_with fail
  all_goals
   go_ret2
   exact ⟨by rw [E.out]; rfl, by rw [HK.out]; exact ⟨HZ.out.bl, HZ.out.len, HZ.out.most⟩, by first | exact HO.out | exact HO.out.drew⟩
theorem Own.chg {w0 w w' : World} {S0 T : List Nat} {L L' : List Thing} (h : Own w0 S0 w L) (ho : Out w w' T) (I : Nat → Prop)
  (hT : ∀ k ∈ T, ∃ i t cs, L[i]? = some (Thing.block k t cs) ∧ I i)
  (hL : ∀ i t, L'[i]? = some t → (¬ I i ∧ L[i]? = some t) ∨ ∃ g ty cs cs', L[i]? = some (Thing.block g ty cs) ∧ t = Thing.block g ty cs' ∧ BlockIs w' g ty cs') : Own w0 S0 w' L' := by
 obtain ⟨own, ho1⟩ := h.has
 have hb : ∀ i g t cs, L[i]? = some (Thing.block g t cs) → own g = i ∧ (g ∈ S0 ∨ w0.heap.size ≤ g) := fun i g t cs hi => by
  obtain ⟨S, ⟨h1, rfl⟩, h2⟩ := ho1 i _ hi
  exact h2 g (by simp)
 refine ⟨h.out.then' ho (fun k hk => ?_), own, fun i t hi => ?_⟩
 · obtain ⟨j, ty, cs, hj, _⟩ := hT k hk
   exact (hb j k ty cs hj).2
 · rcases hL i t hi with ⟨hn, h1⟩ | ⟨g, ty, cs, cs', h1, rfl, h2⟩
   · obtain ⟨S, a, b⟩ := ho1 i t h1
     refine ⟨S, t.kept a ho (fun k hk hm => ?_), b⟩
     obtain ⟨j, ty, cs, hj, hI⟩ := hT k hm
     have e : j = i := ((hb j k ty cs hj).1).symm.trans (b k hk).1
     exact hn (e ▸ hI)
   · exact ⟨[g], ⟨h2, rfl⟩, fun k hk => by rw [List.mem_singleton.1 hk]; exact hb i g ty cs h1⟩
theorem Own.made {w0 w w' : World} {S0 : List Nat} {L : List Thing} {t : Thing} (h : Own w0 S0 w L) (hl : Leaves w w' [] t) : Own w0 S0 w' (L ++ [t]) := by
 obtain ⟨S', h1, h2, h3⟩ := hl
 exact h.add h2.none_ h1 (fun k hk => (h3 k hk).resolve_left (by simp))
theorem Own.nil_ {w0 w : World} {S0 : List Nat} {L : List Thing} (h : Own w0 S0 w L) (E size : Nat) : Own w0 S0 w (L ++ [Thing.lst E size (.slice none 0 0) []]) :=
 h.add (Below.refl _ _) (S := []) ⟨Lst.nil _ _ _, rfl⟩ (by simp)
theorem setCells_heap (g : Nat) : ∀ (vs : List Value) (o : Nat) (w : World) (t : TypeId) (cs : Array Value) (fz : Nat × Nat), w.heap[g]? = some (.cells cs t fz) → o + vs.length ≤ cs.size →
  (w.setCells g o vs).heap[g]? = some (.cells (cs.toList.take o ++ vs ++ cs.toList.drop (o + vs.length)).toArray t fz)
 | [], o, w, t, cs, fz, h, hl => by
   show w.heap[g]? = _
   rw [h]
   simp
 | v :: vs, o, w, t, cs, fz, h, hl => by
   rw [World.setCells]
   have h1 : (w.setCell ⟨g, o, none⟩ v).heap[g]? = some (.cells (cs.setIfInBounds o v) t fz) := by
    simp [World.setCell, Array.getElem?_modify, h]
   rw [List.length_cons] at hl
   rw [setCells_heap g vs (o + 1) _ t _ fz h1 (by rw [Array.size_setIfInBounds]; omega)]
   have ho : o < cs.toList.length := by rw [Array.length_toList]; omega
   have e : (cs.setIfInBounds o v).toList.take (o + 1) ++ vs ++ (cs.setIfInBounds o v).toList.drop (o + 1 + vs.length) = cs.toList.take o ++ (v :: vs) ++ cs.toList.drop (o + (v :: vs).length) := by
    rw [Array.toList_setIfInBounds, List.take_succ_eq_append_getElem (by rw [List.length_set]; exact ho), List.getElem_set_self, List.take_set_of_le (Nat.le_refl _), List.drop_set_of_lt (by omega), List.length_cons, show o + 1 + vs.length = o + (vs.length + 1) by omega]
    simp
   rw [e]
theorem BlockIs.puts {w : World} {g : Nat} {t : TypeId} {cs : Array Value} (h : BlockIs w g t cs) {vs : List Value} (hl : vs.length = cs.size) : BlockIs (w.setCells g 0 vs) g t vs.toArray := by
 have := setCells_heap g vs 0 w t cs (0, 0) h (by omega)
 unfold BlockIs
 rw [this]
 have e : cs.toList.drop (0 + vs.length) = [] := List.drop_eq_nil_of_le (by rw [Array.length_toList]; omega)
 rw [e]
 simp
theorem Out.setCells {w w' : World} {S : List Nat} (h : Out w w' S) {g : Nat} (hg : g ∈ S ∨ w.heap.size ≤ g) : ∀ (vs : List Value) (o : Nat), Out w (w'.setCells g o vs) S := by
 intro vs
 induction vs generalizing w' with
 | nil => intro o; exact h
 | cons v vs ih => intro o; rw [World.setCells]; exact ih (h.put (p := ⟨g, o, none⟩) hg v) (o + 1)
theorem BlockIs.range {w : World} {g : Nat} {t : TypeId} {cs : Array Value} (h : BlockIs w g t cs) : w.rangeAt g 0 cs.toList := fun j v hv => by
 rw [Nat.zero_add, h.cell j]
 simpa using hv
theorem BlockIs.there {w : World} {g : Nat} {t : TypeId} {cs : Array Value} (h : BlockIs w g t cs) : w.there g 0 cs.size := fun j hj => by
 rw [Nat.zero_add]
 exact ⟨by rw [h.cell j, Array.getElem?_eq_getElem hj]; rfl, h.free j⟩
def pcRow (p : Pc) : List Value := [.int .i64 p.at_, .string p.d]
theorem pcRow_one (p : Pc) : (pcRow p).length = 2 ∧ ∀ u ∈ pcRow p, u.oneCell' = true := ⟨rfl, by intro u hu; simp [pcRow] at hu; rcases hu with rfl | rfl <;> rfl⟩
theorem Tryz.elPc : Elem Tryz.prog 95 98 2 24 := ⟨Tryz.underlying95, ⟨.agg #[.int .i64 0, .string ByteArray.empty], rfl, by kernel_rfl⟩, by decide, by decide⟩
theorem Tryz.elPcs : Elem Tryz.prog 43 95 1 24 := ⟨Tryz.underlying43, ⟨.slice none 0 0, rfl, by kernel_rfl⟩, by decide, by decide⟩
def enCells (s : EnS) (mv cv : Value) (gi gl : Nat) : List Value :=
 .string s.data :: (s.told.map Value.bool ++ [.int .i64 s.may, mv, .int .i64 s.known, cv, .pointer (some ⟨gi, 0, none⟩), .pointer (some ⟨gl, 0, none⟩)])
theorem enCells_data (s : EnS) (mv cv : Value) (gi gl : Nat) : (enCells s mv cv gi gl).toArray[0]? = some (.string s.data) := by simp [enCells]
section
variable {s : EnS} (mv cv : Value) (gi gl : Nat) (h : s.told.length = 60)
include h
theorem enCells_len : (enCells s mv cv gi gl).length = 67 := by unfold enCells; simp [h]
theorem enCells_told {i : Nat} (hi : i < 60) : (enCells s mv cv gi gl).toArray[1 + i]? = some (.bool (tat s.told i)) := by
 unfold enCells tat
 rw [List.getElem?_toArray, Nat.add_comm, List.getElem?_cons_succ, List.getElem?_append_left (by rw [List.length_map]; omega), List.getElem?_map, List.getElem?_eq_getElem (by omega)]
 simp [List.getD, List.getElem?_eq_getElem (show i < s.told.length by omega)]
theorem enCells_tail (k : Nat) : (enCells s mv cv gi gl).toArray[61 + k]? = ([.int .i64 s.may, mv, .int .i64 s.known, cv, .pointer (some ⟨gi, 0, none⟩), .pointer (some ⟨gl, 0, none⟩)] : List Value)[k]? := by
 unfold enCells
 rw [List.getElem?_toArray, show 61 + k = (60 + k) + 1 by omega, List.getElem?_cons_succ, List.getElem?_append_right (by rw [List.length_map]; omega), List.length_map, h, Nat.add_sub_cancel_left]
theorem enCells_setTail (k : Nat) (u : Value) : (enCells s mv cv gi gl).toArray.setIfInBounds (61 + k) u = (.string s.data :: (s.told.map Value.bool ++ ([.int .i64 s.may, mv, .int .i64 s.known, cv, .pointer (some ⟨gi, 0, none⟩), .pointer (some ⟨gl, 0, none⟩)] : List Value).set k u)).toArray := by
 unfold enCells
 rw [List.setIfInBounds_toArray, show 61 + k = (60 + k) + 1 by omega, List.set_cons_succ, List.set_append_right _ _ (by rw [List.length_map]; omega), List.length_map, h, Nat.add_sub_cancel_left]
theorem enCells_setTold {i : Nat} (hi : i < 60) (b : Bool) : (enCells s mv cv gi gl).toArray.setIfInBounds (1 + i) (.bool b) = (enCells { s with told := s.told.set i b } mv cv gi gl).toArray := by
 unfold enCells
 rw [List.setIfInBounds_toArray, Nat.add_comm, List.set_cons_succ, List.set_append_left _ _ (by rw [List.length_map]; omega), ← List.map_set]
end
theorem enCells_one (s : EnS) {mv cv : Value} (hm : mv.oneCell' = true) (hc : cv.oneCell' = true) (gi gl : Nat) : ∀ v ∈ enCells s mv cv gi gl, v.oneCell' = true := by
 intro v hv
 unfold enCells at hv
 rcases List.mem_cons.1 hv with rfl | hv
 · rfl
 · rcases List.mem_append.1 hv with hv | hv
   · obtain ⟨b, _, rfl⟩ := List.mem_map.1 hv; rfl
   · simp at hv
     rcases hv with rfl | rfl | rfl | rfl | rfl | rfl <;> first | rfl | assumption
structure EnP where
 gi : Nat
 gl : Nat
 mv : Value
 cv : Value
 vs : List Value
def inner : List Value → List (List Pc) → List Thing
 | v :: vs, ps :: L => Thing.lst 98 2 v (ps.map pcRow) :: inner vs L
 | _, _ => []
theorem inner_get : ∀ {vs : List Value} {L : List (List Pc)} {i : Nat} {v : Value} {ps : List Pc}, vs[i]? = some v → L[i]? = some ps → (inner vs L)[i]? = some (Thing.lst 98 2 v (ps.map pcRow))
 | v' :: vs, ps' :: L, 0, v, ps, h1, h2 => by simp at h1 h2; subst h1 h2; rfl
 | v' :: vs, ps' :: L, i + 1, v, ps, h1, h2 => inner_get (vs := vs) (L := L) (by simpa using h1) (by simpa using h2)
 | [], _, i, v, ps, h1, _ => by simp at h1
 | _ :: _, [], i, v, ps, _, h2 => by simp at h2
theorem inner_snoc : ∀ {vs : List Value} {L : List (List Pc)} (v : Value) (ps : List Pc), vs.length = L.length → inner (vs ++ [v]) (L ++ [ps]) = inner vs L ++ [Thing.lst 98 2 v (ps.map pcRow)]
 | [], [], v, ps, _ => rfl
 | v' :: vs, ps' :: L, v, ps, h => by
   show _ :: inner (vs ++ [v]) (L ++ [ps]) = _ :: (inner vs L ++ _)
   rw [inner_snoc v ps (by simpa using h)]
 | [], _ :: _, v, ps, h => by simp at h
 | _ :: _, [], v, ps, h => by simp at h
def enParts (g : Nat) (s : EnS) (p : EnP) : List Thing :=
 Thing.block g 83 (enCells s p.mv p.cv p.gi p.gl).toArray :: Thing.block p.gi 146 (strCells s.M s.t) :: Thing.block p.gl 143 (credCells s.W s.L s.C s.R) ::
  Thing.lst 95 1 p.mv (p.vs.map fun v => [v]) :: Thing.lst 101 2 p.cv (s.came.map rngRow) :: inner p.vs s.made
def endT (g : Nat) (s : EnS) : Thing := Thing.ex fun p : EnP => Thing.with_ (EnOk s ∧ p.vs.length = s.made.length) (Thing.all (enParts g s p))
structure EnIn (w : World) (S : List Nat) (g : Nat) (s : EnS) (p : EnP) : Prop where
 ok : EnOk s
 len : p.vs.length = s.made.length
 own : Own w S w (enParts g s p)
theorem endT_open {w : World} {S : List Nat} {g : Nat} {s : EnS} (h : (endT g s).is w S) : ∃ p, EnIn w S g s p := by
 obtain ⟨p, ⟨h1, h2⟩, h3⟩ := h
 exact ⟨p, h1, h2, Own.unfold_ h3⟩
theorem endT_close {w w' : World} {S : List Nat} {g : Nat} {s : EnS} {p : EnP} (h1 : EnOk s) (h2 : p.vs.length = s.made.length) (h : Own w S w' (enParts g s p)) : Leaves w w' S (endT g s) :=
 Leaves.ex p (Leaves.with_ ⟨h1, h2⟩ h.closed)
namespace EnIn
variable {w : World} {S : List Nat} {g : Nat} {s : EnS} {p : EnP} (h : EnIn w S g s p)
include h
theorem bg : BlockIs w g 83 (enCells s p.mv p.cv p.gi p.gl).toArray := h.own.blk 0 rfl
theorem sz : Sz w p.gi s.M s.t := ⟨h.own.blk 1 rfl, h.ok.ml, h.ok.tt⟩
theorem bl : BlockIs w p.gl 143 (credCells s.W s.L s.C s.R) := h.own.blk 2 rfl
theorem lm : Lst w 95 1 p.mv (p.vs.map fun v => [v]) := h.own.ls 3 rfl
theorem lc : Lst w 101 2 p.cv (s.came.map rngRow) := h.own.ls 4 rfl
theorem lp {i : Nat} {v : Value} {ps : List Pc} (h1 : p.vs[i]? = some v) (h2 : s.made[i]? = some ps) : Lst w 98 2 v (ps.map pcRow) := h.own.ls (i + 5) (inner_get h1 h2)
theorem c0 : w.cell? ⟨g, 0, none⟩ = some (.string s.data) := (h.bg.cell 0).trans (enCells_data _ _ _ _ _)
theorem ct {i : Nat} (hi : i < 60) : w.cell? ⟨g, 1 + i, none⟩ = some (.bool (tat s.told i)) := (h.bg.cell _).trans (enCells_told _ _ _ _ h.ok.tl hi)
theorem c61 : w.cell? ⟨g, 61, none⟩ = some (.int .i64 s.may) := (h.bg.cell 61).trans (enCells_tail _ _ _ _ h.ok.tl 0)
theorem c62 : w.cell? ⟨g, 62, none⟩ = some p.mv := (h.bg.cell 62).trans (enCells_tail _ _ _ _ h.ok.tl 1)
theorem c63 : w.cell? ⟨g, 63, none⟩ = some (.int .i64 s.known) := (h.bg.cell 63).trans (enCells_tail _ _ _ _ h.ok.tl 2)
theorem c64 : w.cell? ⟨g, 64, none⟩ = some p.cv := (h.bg.cell 64).trans (enCells_tail _ _ _ _ h.ok.tl 3)
theorem c65 : w.cell? ⟨g, 65, none⟩ = some (.pointer (some ⟨p.gi, 0, none⟩)) := (h.bg.cell 65).trans (enCells_tail _ _ _ _ h.ok.tl 4)
theorem c66 : w.cell? ⟨g, 66, none⟩ = some (.pointer (some ⟨p.gl, 0, none⟩)) := (h.bg.cell 66).trans (enCells_tail _ _ _ _ h.ok.tl 5)
end EnIn
theorem enew (n : Int) (h1 : 1 ≤ n) (h2 : n ≤ 1000) (w : World) :
  Calls Tryz.prog 8 #[.int .i64 n] w fun e w' => ∃ g, e = .returned (.tuple #[.pointer (some ⟨g, 0, none⟩), .nilIface]) ∧ Leaves w w' [] (endT g (EnS.new n)) := by
 have H1 := Lib.hid h1
 have H2 := Lib.hid h2
 go_enter Tryz.func8, Tryz.ntmps8
 go_wp2_with (first | (go_at_call 40; refine (cnew_yes n h1 h2 _).mono ?_; rintro e w1 ⟨rfl, rfl⟩) | (go_at_call 41; refine (snew _).mono ?_; rintro e w1 ⟨rfl, hz, hb⟩))
 go_ret2
 refine ⟨w1.heap.size, rfl, endT_close (p := ⟨w.heap.size + 1, w.heap.size, .slice none 0 0, .slice none 0 0, []⟩) (EnOk.new H1.out H2.out) rfl ?_⟩
 have ec : ((((Tryz.zeroCells83.setIfInBounds 61 (Value.int IntKind.i64 n)).setIfInBounds 63 (Value.int IntKind.i64 (-1))).setIfInBounds 65 (Value.pointer (some { block := w.heap.size + 1, off := 0 }))).setIfInBounds 66 (Value.pointer (some { block := w.heap.size, off := 0 }))) = (enCells (EnS.new n) (.slice none 0 0) (.slice none 0 0) (w.heap.size + 1) w.heap.size).toArray := by kernel_rfl
 rw [World.size_alloc] at hz
 have o1 := (Own.start w).alloc 143 (credCells n n 0 0)
 have o2 := o1.add hb (S := [_]) (t := Thing.block _ 146 (strCells Plc.new 0)) ⟨hz.bl, rfl⟩ (by simp)
 have o3 := ((o2.alloc 83 (enCells (EnS.new n) (.slice none 0 0) (.slice none 0 0) (w.heap.size + 1) w.heap.size).toArray).nil_ 95 1).nil_ 101 2
 show Own w [] (w1.alloc (.cells ((((Tryz.zeroCells83.setIfInBounds 61 (Value.int IntKind.i64 n)).setIfInBounds 63 (Value.int IntKind.i64 (-1))).setIfInBounds 65 (Value.pointer (some { block := w.heap.size + 1, off := 0 }))).setIfInBounds 66 (Value.pointer (some { block := w.heap.size, off := 0 }))) 83)) _
 rw [ec]
 refine Own.pick o3 [2, 1, 0, 3, 4] (by decide) (fun i t hi => ?_)
 match i, hi with
 | 0, hi => exact ⟨2, rfl, hi⟩
 | 1, hi => exact ⟨1, rfl, hi⟩
 | 2, hi => exact ⟨0, rfl, hi⟩
 | 3, hi => exact ⟨3, rfl, hi⟩
 | 4, hi => exact ⟨4, rfl, hi⟩
theorem ewrite (g : Nat) (s : EnS) (d : ByteArray) (w : World) (S : List Nat) (h : (endT g s).is w S) (hd : d.size ≤ 9223372036854775000) :
  Calls Tryz.prog 11 #[.pointer (some ⟨g, 0, none⟩), .string d] w fun e w' => e = .returned (errV (s.writeE d)) ∧ Leaves w w' S (endT g (s.write d)) := by
 obtain ⟨p, hp⟩ := endT_open h
 have H := Lib.hid h
 have HP := Lib.hid hp
 have c0 := hp.c0
 have lg := hp.bg.lt
 have fg := hp.bg.free
 have hz := hp.ok.dz
 have hw : IntKind.i64.wrap ((s.data.size : Int) + (d.size : Int)) = (s.data.size : Int) + (d.size : Int) := IntWalk.i64_in _ (by omega)
 clear h hp
 by_cases hf : 60 < s.data.size + d.size
 · have HE : Hid (s.writeE d = 4 ∧ s.write d = s) := Lib.hid ⟨by unfold EnS.writeE; rw [if_pos hf], by unfold EnS.write; rw [if_pos hf]⟩
   rw [HE.out.1, HE.out.2]
   have hb : (60 : Int) < (s.data.size : Int) + (d.size : Int) := by omega
   clear hf
   go_enter Tryz.func11, Tryz.ntmps11
   go_wp2_with fail
   go_ret
   exact ⟨rfl, Leaves.same H.out (Below.refl _ _)⟩
 · have HE : Hid (s.writeE d = 0 ∧ s.write d = { s with data := s.data ++ d }) := Lib.hid ⟨by unfold EnS.writeE; rw [if_neg hf], by unfold EnS.write; rw [if_neg hf]⟩
   have HW := Lib.hid (HP.out.ok.write d)
   rw [HE.out.2] at HW
   rw [HE.out.1, HE.out.2]
   have hb : decide ((60 : Int) < (s.data.size : Int) + (d.size : Int)) = false := by simp; omega
   have hc : (9223372036854775807 < s.data.size + d.size) = False := by simp; omega
   clear hf
   go_enter Tryz.func11, Tryz.ntmps11
   go_wp2_with fail
   go_ret
   refine ⟨rfl, endT_close (p := p) HW.out HP.out.len ?_⟩
   have o := HP.out.own.put 0 rfl 0 (.string (s.data ++ d))
   exact o
theorem enext (g : Nat) (s : EnS) (w : World) (S : List Nat) (h : (endT g s).is w S) :
  Calls Tryz.prog 54 #[.pointer (some ⟨g, 0, none⟩)] w fun e w' => e = .returned (.int .i64 (nextN s.came)) ∧ w = w' := by
 obtain ⟨p, hp⟩ := endT_open h
 have HP := Lib.hid hp
 have c64 := hp.c64
 have lg := hp.bg.lt
 obtain ⟨A, cap, hv, hcl, hcm, hsh⟩ := hp.lc.shape
 rw [List.length_map] at hv hcl
 clear h hp
 by_cases h0 : s.came = []
 · have HE : Hid (nextN s.came = 0) := Lib.hid (by unfold nextN; rw [if_pos h0])
   rw [HE.out]
   rw [hv, h0] at c64
   clear hv h0 hsh hcl hcm
   go_enter Tryz.func54, Tryz.ntmps54
   go_wp2_with fail
   go_ret
   exact ⟨rfl, rfl⟩
 · have hl : 0 < s.came.length := List.length_pos_iff.2 h0
   have hr := rngE_ok HP.out.ok.cm (rat s.came 0) (by rw [rat_get hl]; exact List.getElem_mem _)
   have HE : Hid (nextN s.came = min 1073741823 ((rat s.came 0).hi + 1)) := Lib.hid (by unfold nextN; rw [if_neg h0])
   have hrd := Rd.of_lst HP.out.lc
   rw [hv] at hrd
   obtain ⟨b, off, rfl, hlt, hcc⟩ := hrd.rng hl
   obtain ⟨-, e1⟩ := hcc w (Since.refl w) 0 hl
   rw [hv] at c64
   rw [HE.out]
   have hb1 : (0 : Int) < (s.came.length : Int) := by omega
   have hne : ¬ ((s.came.length : Int) = 0) := by omega
   have hne2 : ((s.came.length : Int) == 0) = false := by simpa using hne
   have hwr : IntKind.i64.wrap ((rat s.came 0).hi + 1) = (rat s.came 0).hi + 1 := IntWalk.i64_in _ (by omega)
   rw [Nat.zero_mul, Nat.add_zero] at e1
   generalize rat s.came 0 = r at *
   clear hv h0 hsh hcm hcc hrd HE hr hne
   go_enter Tryz.func54, Tryz.ntmps54
   go_wp2_with fail
   go_ret
   exact ⟨rfl, rfl⟩
theorem Own.chg1 {w0 w w' : World} {S0 : List Nat} {L : List Thing} (h : Own w0 S0 w L) (i : Nat) {g : Nat} {t : TypeId} {cs cs' : Array Value} (hi : L[i]? = some (Thing.block g t cs)) (hb : BlockIs w' g t cs') (ho : Out w w' [g]) : Own w0 S0 w' (L.set i (Thing.block g t cs')) := by
 obtain ⟨S, ⟨h1, rfl⟩, h2⟩ := h.at_ i hi
 exact h2 _ _ (Leaves.block hb ho)
theorem eread (g : Nat) (s : EnS) (n : Int) (w : World) (S : List Nat) (h : (endT g s).is w S) :
  Calls Tryz.prog 14 #[.pointer (some ⟨g, 0, none⟩), .int .i64 n] w fun e w' => e = .returned (.tuple #[.string (s.readS n), errV (EnS.readE n)]) ∧ Leaves w w' S (endT g (s.read n)) := by
 obtain ⟨p, hp⟩ := endT_open h
 have H := Lib.hid h
 have HP := Lib.hid hp
 have c65 := hp.c65
 have lg := hp.bg.lt
 clear h hp
 by_cases hn : n < 0
 · have HE : Hid (EnS.readE n = 1 ∧ s.readS n = ⟨#[]⟩ ∧ s.read n = s) := Lib.hid ⟨by unfold EnS.readE; rw [if_pos hn], by unfold EnS.readS; rw [if_pos hn], by unfold EnS.read; rw [if_pos hn]⟩
   rw [HE.out.1, HE.out.2.1, HE.out.2.2]
   go_enter Tryz.func14, Tryz.ntmps14
   go_wp2_with fail
   go_ret2
   exact ⟨rfl, Leaves.same H.out (Below.refl _ _)⟩
 · have hn' : decide (n < 0) = false := by simpa using hn
   obtain ⟨k, hk⟩ : ∃ k, takeK s.M s.t n = k := ⟨_, rfl⟩
   obtain ⟨T, hT⟩ : ∃ T, takeS s.M s.t n = T := ⟨_, rfl⟩
   have hTk : T.size = k := by
    rw [← hT, ← hk]
    show (cutL s.M s.t (takeK s.M s.t n)).toArray.size = _
    rw [List.size_toArray, cutL_len]
   have HE : Hid (EnS.readE n = 0 ∧ s.readS n = T ∧ s.read n = { s with t := s.t + k, L := limitN s.W s.L s.R k, R := s.R + k }) := Lib.hid ⟨by unfold EnS.readE; rw [if_neg hn], by unfold EnS.readS; rw [if_neg hn]; exact hT, by unfold EnS.read; rw [if_neg hn, hk]⟩
   have HW := Lib.hid (HP.out.ok.read n)
   rw [HE.out.2.2] at HW
   have HRD := Lib.hid (HP.out.ok.readOk n).1
   have HS := Lib.hid (stake p.gi s.M s.t n w HP.out.sz)
   have HQ : Hid (stkE n = 0) := Lib.hid (by unfold stkE; rw [if_neg hn])
   rw [hk] at HRD
   rw [hT, hk, HQ.out, errV_zero] at HS
   rw [HE.out.1, HE.out.2.1, HE.out.2.2, errV_zero]
   have HTK := Lib.hid hTk
   clear hn hk hT hTk HE HQ
   go_enter Tryz.func14, Tryz.ntmps14
   go_wp2_with fail
   refine HS.out.mono ?_
   rintro e w1 ⟨rfl, hz, ho⟩
   have HO := Lib.hid (HP.out.own.chg1 1 rfl hz.bl ho)
   have d66 : w1.cell? ⟨g, 66, none⟩ = some (.pointer (some ⟨p.gl, 0, none⟩)) := (HO.out.blk 0 rfl).cell 66 |>.trans (enCells_tail _ _ _ _ HP.out.ok.tl 5)
   have lg1 := (HO.out.blk 0 rfl).lt
   have HC := Lib.hid (cread_any p.gl s.W s.L s.C s.R k HP.out.ok.cr w1 (HO.out.blk 2 rfl))
   unfold rL rR rV at HC
   rw [HRD.out, errV_zero, if_pos rfl, if_pos rfl, if_pos rfl] at HC
   have hsz : (T.size : Int) = (k : Int) := by rw [HTK.out]
   clear hz ho
   go_wp2_with fail
   refine HC.out.mono ?_
   rintro e w2 ⟨rfl, hb2, ho2⟩
   have HO2 := Lib.hid (HO.out.chg1 2 rfl hb2 (Out.of_only ho2))
   clear hb2 ho2
   go_wp2_with fail
   go_ret2
   exact ⟨rfl, endT_close (p := p) HW.out HP.out.len HO2.out⟩
theorem fresh_puts {w : World} {t : TypeId} {z : Array Value} {cs : List Value} (hz : z.size = cs.length) : BlockIs ((w.alloc (.cells z t)).setCells w.heap.size 0 cs) w.heap.size t cs.toArray ∧ Below w.heap.size w ((w.alloc (.cells z t)).setCells w.heap.size 0 cs) :=
 ⟨(BlockIs.fresh w t z).puts hz.symm, (((Out.refl w []).alloc _).setCells (Or.inr (Nat.le_refl _)) cs 0).none_⟩
theorem fresh_there {w : World} {t : TypeId} {z : Array Value} {cs : List Value} (hz : z.size = cs.length) : (w.alloc (.cells z t)).there w.heap.size 0 cs.toArray.size := by
 have := (BlockIs.fresh w t z).there
 rw [hz] at this
 rw [List.size_toArray]
 exact this
theorem strCells_len {M : Plc} (hM : M.length = 60) (t : Nat) : (strCells M t).toList.length = 121 := by unfold strCells; simp [hM]
theorem strCells_one (M : Plc) (t : Nat) : ∀ v ∈ (strCells M t).toList, v.oneCell' = true := by
 intro v hv
 unfold strCells at hv
 rcases List.mem_append.1 hv with hv | hv
 · obtain ⟨o, _, rfl⟩ := List.mem_map.1 hv; rfl
 · rcases List.mem_append.1 hv with hv | hv
   · obtain ⟨o, _, rfl⟩ := List.mem_map.1 hv; rfl
   · rw [List.mem_singleton.1 hv]; rfl
theorem sown (g : Nat) (M : Plc) (t : Nat) (w : World) (h : Sz w g M t) :
  Calls Tryz.prog 98 #[.pointer (some ⟨g, 0, none⟩)] w fun e w' => e = .returned (.pointer (some ⟨w.heap.size, 0, none⟩)) ∧ Sz w' w.heap.size M t ∧ Below w.heap.size w w' := by
 have H := Lib.hid h
 have HR := Lib.hid h.bl.range
 have hlen := strCells_len h.len t
 have HI : Hid ((Tryz.prog.info? 146).map (·.size) = some (strCells M t).toList.length) := Lib.hid (by rw [hlen]; kernel_rfl)
 have HL := Lib.hid hlen
 obtain ⟨cs, hcs⟩ : ∃ cs, (strCells M t).toList = cs := ⟨_, rfl⟩
 have HO : Hid (∀ v ∈ cs, v.oneCell' = true) := Lib.hid (hcs ▸ strCells_one M t)
 rw [hcs] at HR HI HL
 have HCS : Hid (strCells M t = cs.toArray) := Lib.hid (by rw [← hcs])
 have HZ : Hid (Tryz.zeroCells146.size = cs.length) := Lib.hid (by rw [HL.out]; kernel_rfl)
 have HF := Lib.hid (fresh_puts (w := w) (t := 146) HZ.out)
 have HT := Lib.hid (fresh_there (w := w) (t := 146) HZ.out)
 have lg := h.bl.lt
 clear h hlen hcs
 go_enter Tryz.func98, Tryz.ntmps98
 go_wp2_with (first | (refine wpList_load_mid rfl 146 (.tmp 5) rfl g 0 (by go_simp) cs _ HR.out Tryz.underlying146 rfl HI.out ?_) | (refine wpList_store_mid rfl 146 (.tmp 3) (.tmp 6) rfl w.heap.size 0 cs.toArray (by go_simp) (by go_simp) HT.out (by rw [HI.out, List.size_toArray]) (all_oneCell_toArray HO.out) ?_))
 go_ret
 refine ⟨rfl, ⟨?_, H.out.len, H.out.most⟩, HF.out.2⟩
 rw [HCS.out]
 exact HF.out.1
theorem cown (g : Nat) (W L C R : Int) (w : World) (hb : BlockIs w g 143 (credCells W L C R)) :
  Calls Tryz.prog 99 #[.pointer (some ⟨g, 0, none⟩)] w fun e w' => e = .returned (.pointer (some ⟨w.heap.size, 0, none⟩)) ∧ BlockIs w' w.heap.size 143 (credCells W L C R) ∧ Below w.heap.size w w' := by
 have c0 : w.cell? ⟨g, 0, none⟩ = some (.int .i64 W) := hb.cell 0
 have c1 : w.cell? ⟨g, 1, none⟩ = some (.int .i64 L) := hb.cell 1
 have c2 : w.cell? ⟨g, 2, none⟩ = some (.int .i64 C) := hb.cell 2
 have c3 : w.cell? ⟨g, 3, none⟩ = some (.int .i64 R) := hb.cell 3
 have lg := hb.lt
 clear hb
 go_enter Tryz.func99, Tryz.ntmps99
 go_wp2_with fail
 go_ret
 exact ⟨rfl, BlockIs.fresh _ _ _, (by exact Since.alloc (Since.refl _) _)⟩
section
variable {s : EnS} (mv cv : Value) (gi gl : Nat) (h : s.told.length = 60)
include h
theorem enCells_61 (z : Int) : (enCells s mv cv gi gl).toArray.setIfInBounds 61 (.int .i64 z) = (enCells { s with may := z } mv cv gi gl).toArray := enCells_setTail mv cv gi gl h 0 _
theorem enCells_62 (mv' : Value) : (enCells s mv cv gi gl).toArray.setIfInBounds 62 mv' = (enCells s mv' cv gi gl).toArray := enCells_setTail mv cv gi gl h 1 _
theorem enCells_63 (z : Int) : (enCells s mv cv gi gl).toArray.setIfInBounds 63 (.int .i64 z) = (enCells { s with known := z } mv cv gi gl).toArray := enCells_setTail mv cv gi gl h 2 _
theorem enCells_64 (cv' : Value) : (enCells s mv cv gi gl).toArray.setIfInBounds 64 cv' = (enCells s mv cv' gi gl).toArray := enCells_setTail mv cv gi gl h 3 _
theorem enCells_65 (gi' : Nat) : (enCells s mv cv gi gl).toArray.setIfInBounds 65 (.pointer (some ⟨gi', 0, none⟩)) = (enCells s mv cv gi' gl).toArray := enCells_setTail mv cv gi gl h 4 _
theorem enCells_66 (gl' : Nat) : (enCells s mv cv gi gl).toArray.setIfInBounds 66 (.pointer (some ⟨gl', 0, none⟩)) = (enCells s mv cv gi gl').toArray := enCells_setTail mv cv gi gl h 5 _
end
theorem eown (g : Nat) (s : EnS) (p : EnP) (w : World) (S : List Nat) (h : EnIn w S g s p) :
  Calls Tryz.prog 56 #[.pointer (some ⟨g, 0, none⟩)] w fun e w' => ∃ gi' gl', e = .returned (.pointer (some ⟨w.heap.size, 0, none⟩)) ∧ BlockIs w' w.heap.size 83 (enCells s p.mv p.cv gi' gl').toArray ∧ BlockIs w' gi' 146 (strCells s.M s.t) ∧ BlockIs w' gl' 143 (credCells s.W s.L s.C s.R) ∧ w.heap.size ≤ gi' ∧ w.heap.size ≤ gl' ∧ Below w.heap.size w w' := by
 have H := Lib.hid h
 have hlen := enCells_len p.mv p.cv p.gi p.gl h.ok.tl
 obtain ⟨cs, hcs⟩ : ∃ cs, enCells s p.mv p.cv p.gi p.gl = cs := ⟨_, rfl⟩
 obtain ⟨Am, cm, hm, -⟩ := h.lm.shape
 obtain ⟨Ac, cc, hc, -⟩ := h.lc.shape
 have HO : Hid (∀ v ∈ cs, v.oneCell' = true) := Lib.hid (hcs ▸ enCells_one s (by rw [hm]; rfl) (by rw [hc]; rfl) p.gi p.gl)
 have hbg := h.bg
 rw [hcs] at hbg hlen
 have HL := Lib.hid hlen
 have HR : Hid (w.rangeAt g 0 cs) := Lib.hid (by have := hbg.range; simpa using this)
 have HI : Hid ((Tryz.prog.info? 83).map (·.size) = some cs.length) := Lib.hid (by rw [HL.out]; kernel_rfl)
 have HZ : Hid (Tryz.zeroCells83.size = cs.length) := Lib.hid (by rw [HL.out]; kernel_rfl)
 have HF := Lib.hid (fresh_puts (w := w) (t := 83) HZ.out)
 have HT := Lib.hid (fresh_there (w := w) (t := 83) HZ.out)
 have HCS := Lib.hid hcs
 have lg := hbg.lt
 have HX : Hid (∀ X, Below w.heap.size w X → X.cell? ⟨g, 65, none⟩ = some (.pointer (some ⟨p.gi, 0, none⟩)) ∧ X.cell? ⟨g, 66, none⟩ = some (.pointer (some ⟨p.gl, 0, none⟩)) ∧ Sz X p.gi s.M s.t ∧ BlockIs X p.gl 143 (credCells s.W s.L s.C s.R) ∧ g < X.heap.size) := Lib.hid (fun X hX =>
  ⟨(hX.cell (p := ⟨g, 65, none⟩) h.bg.lt).trans h.c65, (hX.cell (p := ⟨g, 66, none⟩) h.bg.lt).trans h.c66, h.sz.later hX, h.bl.later hX, (h.bg.later hX).lt⟩)
 clear h hlen hcs hm hc hbg
 go_enter Tryz.func56, Tryz.ntmps56
 go_wp2_with (first | (refine wpList_load_mid rfl 83 (.tmp 5) rfl g 0 (by go_simp) cs _ HR.out Tryz.underlying83 rfl HI.out ?_) | (refine wpList_store_mid rfl 83 (.tmp 3) (.tmp 6) rfl w.heap.size 0 cs.toArray (by go_simp) (by go_simp) HT.out (by rw [HI.out, List.size_toArray]) (all_oneCell_toArray HO.out) ?_))
 generalize hwx : (w.alloc (.cells Tryz.zeroCells83 83)).setCells w.heap.size 0 cs = wx at *
 obtain ⟨hbx, hsx⟩ := HF.out
 have HB := Lib.hid hbx
 have HS := Lib.hid hsx
 obtain ⟨d65, d66, hz, hc, lx⟩ := HX.out wx hsx
 have hgx : w.heap.size < wx.heap.size := hbx.lt
 have HG : Hid (∀ X, Below wx.heap.size wx X → X.cell? ⟨w.heap.size, 65, none⟩ = some (.pointer (some ⟨p.gi, 0, none⟩)) ∧ X.cell? ⟨w.heap.size, 66, none⟩ = some (.pointer (some ⟨p.gl, 0, none⟩)) ∧ (∀ i, X.frozen? ⟨w.heap.size, i, none⟩ = false) ∧ w.heap.size < X.heap.size) := Lib.hid (fun X hX => by
  have hb := hbx.later hX
  rw [← HCS.out] at hb
  exact ⟨(hb.cell 65).trans (enCells_tail _ _ _ _ H.out.ok.tl 4), (hb.cell 66).trans (enCells_tail _ _ _ _ H.out.ok.tl 5), hb.free, hb.lt⟩)
 have hs0 : Since w wx := hsx
 clear hbx hsx hz hc HT HF HR HI HZ HO
 go_region_law (first
  | (go_simp; go_at_call 98; refine (sown p.gi s.M s.t _ ?_).mono ?_; exact (HX.out _ (by exact Since.drew hs0)).2.2.1; rintro e wi ⟨rfl, hzi, hbi⟩; obtain ⟨e65, e66, ez, ec, lx1⟩ := HX.out wi (by exact Since.later (Since.drew hs0) hbi); obtain ⟨g65, g66, gf, gk⟩ := HG.out wi (by exact Since.later (Since.drew (Since.refl _)) hbi); clear ez ec)
  | (go_simp; go_at_call 99; refine (cown p.gl s.W s.L s.C s.R _ ?_).mono ?_; exact (HX.out _ (by exact Since.later (Since.drew hs0) hbi)).2.2.2.1; rintro e wl ⟨rfl, hbl, hbbl⟩; obtain ⟨f65, f66, fz, fc, lx2⟩ := HX.out wl (by exact Since.later (Since.later (Since.drew hs0) hbi) hbbl); obtain ⟨h65, h66, hf, hk⟩ := HG.out wl (by exact Since.later (Since.later (Since.drew (Since.refl _)) hbi) hbbl); clear fz fc))
 all_goals
  have hbw : BlockIs wx w.heap.size 83 (enCells s p.mv p.cv p.gi p.gl).toArray := by rw [HCS.out]; exact HB.out
  go_wp2_with fail
  go_ret
  first
  | (have h1 := ((hbw.later (show Since wx wl from (by exact Since.later (Since.later (Since.drew (Since.refl _)) hbi) hbbl))).put 65 (.pointer (some ⟨wx.heap.size, 0, none⟩))).put 66 (.pointer (some ⟨wi.heap.size, 0, none⟩))
     rw [enCells_65 _ _ _ _ H.out.ok.tl, enCells_66 _ _ _ _ H.out.ok.tl] at h1
     exact ⟨wx.heap.size, wi.heap.size, rfl, h1, ((hzi.bl.later hbbl).far (by simp; omega) _).far (by simp; omega) _, (hbl.far (by simp; omega) _).far (by simp; omega) _, by omega, by omega, (by exact Since.set (Since.set (Since.later (Since.later (Since.drew hs0) hbi) hbbl) (by first | omega | (simp; done) | (simp; omega)) _) (by first | omega | (simp; done) | (simp; omega)) _)⟩)
  | (have h1 := ((hbw.later (show Since wx wi from (by assumption))).put 65 (.pointer (some ⟨wl.heap.size, 0, none⟩))).put 66 (.pointer (some ⟨wx.heap.size, 0, none⟩))
     rw [enCells_65 _ _ _ _ H.out.ok.tl, enCells_66 _ _ _ _ H.out.ok.tl] at h1
     exact ⟨wl.heap.size, wx.heap.size, rfl, h1, (hzi.bl.far (by simp; omega) _).far (by simp; omega) _, ((hbl.later hbi).far (by simp; omega) _).far (by simp; omega) _, by omega, by omega, (by assumption)⟩)
end Go.Proofs.YtmfbaijbigodkaaGreatDoor
namespace Go.Proofs.YtmfbaijbigodkaaGreatDoor
open Go.Shelf Go.ChangeShapes Go.WideShapes Go.ChangeAt Go.RowKit
set_option linter.unusedVariables false
def laysGrowP_ren : Go.Shelf.Ren := ⟨fun | 4 => 154 | n => n, fun | 0 => 0 | 3 => 3 | 4 => 4 | 9 => 9 | 20 => 20 | 22 => 95 | 25 => 98 | n => n, fun | n => n⟩
theorem laysGrowP : Go.Proofs.Lays8.n4 Tryz.prog laysGrowP_ren := {
 mixed := by kernel_rfl
 f4 := ⟨Tryz.f154.name, by decide, Tryz.func154.trans (congrArg some (by kernel_rfl))⟩
 t0 := Tryz.underlying0
 a0 := Tryz.isAgg0
 z0 := Tryz.sizeOf0
 v0 := Tryz.zeroValue0
 t3 := Tryz.underlying3
 a3 := Tryz.isAgg3
 z3 := Tryz.sizeOf3
 v3 := Tryz.zeroValue3
 t4 := Tryz.underlying4
 a4 := Tryz.isAgg4
 z4 := Tryz.sizeOf4
 v4 := Tryz.zeroValue4
 t9 := Tryz.underlying9
 a9 := Tryz.isAgg9
 z9 := Tryz.sizeOf9
 v9 := Tryz.zeroValue9
 t20 := Tryz.underlying20
 a20 := Tryz.isAgg20
 z20 := Tryz.sizeOf20
 v20 := Tryz.zeroValue20
 t22 := Tryz.underlying95
 a22 := Tryz.isAgg95
 z22 := Tryz.sizeOf95
 v22 := Tryz.zeroValue95
}
theorem pgrow (n : Nat) (w : World) (hn : n ≤ 100000) :
  Calls Tryz.prog 154 #[.slice none 0 0, .int .i64 n] w fun e w' => ∃ A cap, e = .returned (.slice A 0 cap) ∧ Lst w' 98 2 (.slice A 0 cap) [] ∧ Below w.heap.size w w' ∧ ∀ k, k ∈ blocks (.slice A 0 0) → w.heap.size ≤ k := by
 rcases Nat.eq_zero_or_pos n with h0 | h0
 · refine Calls.mono (P := Tryz.prog) (Any8.slices_Grow_room laysGrowP none 0 0 n w (Nat.le_refl _) (by omega) (by omega) (by omega)) ?_
   rintro e w' ⟨rfl, rfl⟩
   exact ⟨none, 0, rfl, Lst.nil _ _ _, Below.refl _ _, by simp [Value.ownBlock]⟩
 · obtain ⟨z, hz, hinfo⟩ := (Tryz.elPc).info
   obtain ⟨i, hi, hz0, hz1, hz2⟩ := info_parts hinfo
   refine Calls.mono (P := Tryz.prog) (Any8.slices_Grow_grow laysGrowP i z hi hz0 (by omega) none 0 0 n [] w (Nat.le_refl _) (by omega) (by rw [hz2]; omega) (by omega) (by simp) (fun _ => rfl) (by intro a ha; cases ha)) ?_
   rintro e w' ⟨rfl, rfl⟩
   have hG := grownCap_ge w (0 + n) 0 98
   have hM := grownCap_le_maxLen w (0 + n) 0 98 (by unfold maxLen; omega)
   refine ⟨_, _, rfl, ⟨?_, by simp⟩, ((Below.refl _ _).drew).alloc (Nat.le_refl _) _, fun k hk => ?_⟩
   · refine World.ownsRow_made w.drew _ _ (Nat.zero_le _) hM ?_
     simp only [Array.size_append, Builtin.zeroCells, Array.size_map, Array.size_range, hz]
     show 0 + (0 + n - 0) * 2 + (grownCap w (0 + n) 0 98 - (0 + n)) * 2 = grownCap w (0 + n) 0 98 * 2
     omega
   · have : w.heap.size = k := by simpa [Value.ownBlock] using hk
     omega
end Go.Proofs.YtmfbaijbigodkaaGreatDoor
namespace Go.Proofs.YtmfbaijbigodkaaGreatDoor
open Go.ChangeShapes Go.WideShapes Go.ChangeAt Go.RowKit
set_option linter.unusedVariables false
section
variable {P : Program} {w : World} {t E size bytes : Nat} {v : Value} {es : List (List Value)}
theorem run_catR (hE : Elem P t E size bytes) (hl : Lst w E size v es) {A2 : Option Addr} {n2 c2 : Nat} {ns : List (List Value)} (hr : Rd w size (.slice A2 n2 c2) ns) (hn : es.length + ns.length ≤ 1000000) (ty : TypeId) :
  ∃ A cap w', (Builtin.append_ #[t, t] ty #[v, .slice A2 n2 c2]).run P w = .ok (.slice A (es.length + n2) cap) w' ∧ Lst w' E size (.slice A (es.length + n2) cap) (es ++ ns) ∧ Out w w' (blocks v) ∧
   (∀ k, k ∈ blocks (.slice A (es.length + n2) cap) → k ∈ blocks v ∨ k = w.heap.size) := by
 obtain ⟨A0, c0, hv0, _, _, hsh⟩ := hr.shape
 simp only [Value.slice.injEq] at hv0
 obtain ⟨rfl, rfl, rfl⟩ := hv0
 cases A2 with
 | none =>
   have hns : ns = [] := by
    cases ns with
    | nil => rfl
    | cons a b => obtain ⟨_, _, h, _⟩ := hsh (by simp); cases h
   subst hns
   obtain ⟨A, cap, rfl, hle, _, _⟩ := hl.shape
   obtain ⟨z, hz, hinfo⟩ := hE.info
   obtain ⟨i, hi, hz0, hz1, hz2⟩ := info_parts hinfo
   refine ⟨A, cap, w, run_append_nothing w t t ty E i hE.ht hi A es.length cap hle _ (Src.ofNil _ hE.ht c2), ?_, Out.refl _ _, fun k hk => Or.inl hk⟩
   rw [List.append_nil]
   exact hl
 | some ad =>
   obtain ⟨A, cap, w', h1, h2, h3, h4⟩ := run_cat hE hl ad c2 hr.rows (fun j u hu => by
    have hne : ns ≠ [] := by intro he; rw [he] at hu; simp [flat] at hu
    obtain ⟨b, off, he, hlt, hcc⟩ := hsh hne
    cases he
    have hadd : (⟨b, off, none⟩ : Addr).add j = ⟨b, off + j, none⟩ := by unfold Addr.add; split <;> simp_all
    rw [hadd]
    exact hcc j u hu) hn ty
   exact ⟨A, cap, w', h1, h2, h3, h4⟩
variable {ops : Array Oper} {rest : List Oper} {o : Oper} {a : Act} {Q : Exit → Act → World → Prop} {K : Act → World → Prop}
theorem wpList_catR (hgd : o.guard = none) (s x : Operand) (t : TypeId) (ho : o.op = .call { callee := .builtin .append, args := #[s, x], argTypes := #[t, t] })
  (E size bytes : Nat) (hE : Elem P t E size bytes) (v : Value) (es : List (List Value)) (hs : a.eval s = v) (hl : Lst w E size v es) (A2 : Option Addr) (n2 c2 : Nat) (ns : List (List Value)) (hx : a.eval x = .slice A2 n2 c2) (hr : Rd w size (.slice A2 n2 c2) ns) (hn : es.length + ns.length ≤ 1000000)
  (h : ∀ A cap w', Lst w' E size (.slice A (es.length + n2) cap) (es ++ ns) → Out w w' (blocks v) → (∀ k, k ∈ blocks (.slice A (es.length + n2) cap) → k ∈ blocks v ∨ k = w.heap.size) → wpList P ops Q rest (a.put o.dst (.slice A (es.length + n2) cap)) w') : wpList P ops Q (o :: rest) a w :=
 wpList_plain hgd fun _ hK => by
  obtain ⟨A, cap, w', h1, h2, h3, h4⟩ := run_catR (P := P) hE hl hr hn o.type
  unfold Oper.wp execOp
  simp only [ho, resolve, invoke, builtin, Sem.run_bind, Sem.run_pure, Result.andThen_ok, List.map_toArray, List.map_cons, List.map_nil, hs, hx, h1]
  exact hK _ _ (h A cap w' h2 h3 h4)
end
structure PcsR (w : World) (b off : Nat) (vs : List Value) (L : List (List Pc)) : Prop where
 len : vs.length = L.length
 lt : b < w.heap.size
 cell : ∀ (i : Nat) v, vs[i]? = some v → w.cell? ⟨b, off + i, none⟩ = some v
 rd : ∀ (i : Nat) v ps, vs[i]? = some v → L[i]? = some ps → Rd w 2 v (ps.map pcRow)
 few : ∀ ps ∈ L, ps.length ≤ 3
theorem PcsR.later {w w' : World} {b off : Nat} {vs : List Value} {L : List (List Pc)} (h : PcsR w b off vs L) (hb : Below w.heap.size w w') : PcsR w' b off vs L :=
 ⟨h.len, Nat.lt_of_lt_of_le h.lt hb.size, fun i v hv => (hb.cell (p := ⟨b, off + i, none⟩) h.lt).trans (h.cell i v hv), fun i v ps h1 h2 => (h.rd i v ps h1 h2).later hb, h.few⟩
theorem flat_few : ∀ {L : List (List Pc)}, (∀ ps ∈ L, ps.length ≤ 3) → L.flatten.length ≤ 3 * L.length
 | [], _ => by simp
 | ps :: L, h => by
   have h1 := h ps (List.mem_cons_self ..)
   have h2 := flat_few (L := L) (fun q hq => h q (List.mem_cons_of_mem _ hq))
   rw [List.flatten_cons, List.length_append, List.length_cons]
   omega
theorem flat_succ {L : List (List Pc)} {i : Nat} (h : i < L.length) : (L.take (i + 1)).flatten = (L.take i).flatten ++ L[i] := by
 rw [List.take_succ_eq_append_getElem h, List.flatten_append]
 congr 1
 exact List.append_nil _
def totN (L : List (List Pc)) (i : Nat) : Nat := (L.take i).flatten.length
theorem totN_succ {L : List (List Pc)} {i : Nat} (h : i < L.length) : totN L (i + 1) = totN L i + L[i].length := by
 unfold totN; rw [flat_succ h, List.length_append]
theorem totN_le {L : List (List Pc)} (h : ∀ ps ∈ L, ps.length ≤ 3) (i : Nat) : totN L i ≤ 3 * i := by
 unfold totN
 have h1 := flat_few (L := L.take i) (fun ps hp => h ps (List.mem_of_mem_take hp))
 rw [List.length_take] at h1
 omega
theorem PcsR.at_ {w : World} {b off : Nat} {vs : List Value} {L : List (List Pc)} (h : PcsR w b off vs L) {i : Nat} (hi : i < L.length) : ∃ (A : Option Addr) (c : Nat), ∀ w', Below w.heap.size w w' → w'.cell? ⟨b, off + i, none⟩ = some (.slice A L[i].length c) ∧ Rd w' 2 (.slice A L[i].length c) (L[i].map pcRow) := by
 have hv : i < vs.length := by rw [h.len]; exact hi
 have h1 := h.cell i _ (List.getElem?_eq_getElem hv)
 have h2 := h.rd i _ _ (List.getElem?_eq_getElem hv) (List.getElem?_eq_getElem hi)
 obtain ⟨A, c, e, _⟩ := h2.shape
 rw [List.length_map] at e
 rw [e] at h1 h2
 exact ⟨A, c, fun w' hb => ⟨(hb.cell (p := ⟨b, off + i, none⟩) h.lt).trans h1, h2.later hb⟩⟩
theorem pconcat (b off n cap : Nat) (vs : List Value) (L : List (List Pc)) (w : World) (hn : L.length = n) (hm : n ≤ 1000) (h : PcsR w b off vs L) :
  Calls Tryz.prog 133 #[.slice (some ⟨b, off, none⟩) n cap] w fun e w' => ∃ A' cap', e = .returned (.slice A' L.flatten.length cap') ∧ Lst w' 98 2 (.slice A' L.flatten.length cap') (L.flatten.map pcRow) ∧ Below w.heap.size w w' ∧ ∀ k, k ∈ blocks (.slice A' 0 0) → w.heap.size ≤ k := by
 have H := Lib.hid h
 have HN := Lib.hid hn
 clear h hn
 go_enter Tryz.func133, Tryz.ntmps133
 go_wp2_with fail
 have HF := Lib.hid H.out.few
 go_loopw [3, 5, 11] (fun s3 s5 s11 wr => ∃ i : Nat, s11 = .int .i64 i ∧ i ≤ n ∧ s3 = .int .i64 (totN L i : Int) ∧ Since w wr) (fun s3 s5 s11 _ => n - (intOf s11).toNat)
 case atStart => exact ⟨0, rfl, Nat.zero_le _, rfl, (by exact Since.refl _)⟩
 case round =>
  obtain ⟨i, rfl, hi, rfl, hs⟩ := hrel
  have htot := totN_le HF.out i
  by_cases hlt : i < n
  case neg =>
   obtain rfl : i = n := by omega
   have hlt' : decide ((i : Int) < (i : Int)) = false := by simp
   have HT : Hid (totN L i = L.flatten.length) := Lib.hid (by unfold totN; rw [← HN.out, List.take_length])
   go_wp2_with fail
   refine (pgrow (totN L i) _ (by omega)).mono ?_
   rintro e w1 ⟨A1, k1, rfl, hl1, hb1, hk1⟩
   have HL1 := Lib.hid hl1
   have HK1 := Lib.hid hk1
   have hs1 : Since w w1 := hs.later hb1
   clear hl1 hk1 hb1
   go_wp2_with fail
   go_loopw [6, 8, 27] (fun s6 s8 s27 wr => ∃ (j : Nat) (A : Option Addr) (k : Nat), s27 = .int .i64 j ∧ j ≤ i ∧ s6 = .slice A (totN L j) k ∧ Lst wr 98 2 (.slice A (totN L j) k) ((L.take j).flatten.map pcRow) ∧ Since w wr ∧ ∀ q, q ∈ blocks (.slice A 0 0) → w.heap.size ≤ q) (fun s6 s8 s27 _ => i - (intOf s27).toNat)
   case atStart => exact ⟨0, A1, k1, rfl, Nat.zero_le _, rfl, HL1.out, hs1, fun q hq => Nat.le_trans hs.size (HK1.out q hq)⟩
   case round =>
    obtain ⟨j, A, k, rfl, hj, rfl, hl, hs2, hk2⟩ := hrel
    have HL := Lib.hid hl
    have HK := Lib.hid hk2
    clear hl hk2
    by_cases hlt2 : j < i
    case neg =>
     obtain rfl : j = i := by omega
     have hlt2' : decide ((j : Int) < (j : Int)) = false := by simp
     go_wp2_with fail
     go_ret
     refine ⟨A, k, by rw [← HT.out]; rfl, ?_, hs2, HK.out⟩
     rw [← HT.out]
     have h1 := HL.out
     rw [show L.take j = L by rw [← HN.out, List.take_length]] at h1
     exact h1
    have hjl : j < L.length := by rw [HN.out]; exact hlt2
    obtain ⟨B, c, hB⟩ := H.out.at_ hjl
    obtain ⟨cB, hR⟩ := hB wr hs2
    have HR := Lib.hid hR
    have lb := H.out.lt
    have lb2 : b < wr.heap.size := Nat.lt_of_lt_of_le H.out.lt hs2.size
    have htj := totN_le HF.out j
    have hlj := H.out.few _ (List.getElem_mem hjl)
    have HNX := Lib.hid (totN_succ hjl)
    have HFS := Lib.hid (flat_succ hjl)
    have hlt2' : (j : Int) < (i : Int) := by omega
    obtain ⟨ps, hps⟩ : ∃ ps, L[j] = ps := ⟨_, rfl⟩
    rw [hps] at cB HR HNX hlj HFS
    obtain ⟨m, hm⟩ : ∃ m, ps.length = m := ⟨_, rfl⟩
    rw [hm] at cB HR HNX hlj
    have HM := Lib.hid hm
    obtain ⟨es, hes⟩ : ∃ es, (L.take j).flatten.map pcRow = es := ⟨_, rfl⟩
    have HES : Hid (es.length = totN L j) := Lib.hid (by rw [← hes, List.length_map]; rfl)
    rw [hes] at HL
    have HEQ := Lib.hid hes
    clear hB hm hR hps hes hjl
    go_wp2_with (at_builtin; refine wpList_catR rfl _ _ 95 rfl 98 2 24 Tryz.elPc (.slice A (totN L j) k) es rfl HL.out B m c (ps.map pcRow) rfl HR.out (by rw [List.length_map, HES.out, HM.out]; omega) ?_; intro A3 k3 w3 hl3 ho3 hf3; rw [HES.out] at hl3 hf3; rw [HES.out]; have hs3 : Since w w3 := hs2.out' ho3 (fun q hq => HK.out q (blocks_any A _ _ _ _ ▸ hq)))
    have HL3 := Lib.hid hl3
    have HK3 : Hid (∀ q, q ∈ blocks (.slice A3 0 0) → w.heap.size ≤ q) := Lib.hid (fun q hq => by
     rcases hf3 q (blocks_any A3 _ _ _ _ ▸ hq) with h1 | h1
     · exact HK.out q (blocks_any A _ _ _ _ ▸ h1)
     · rw [h1]; exact hs2.size)
    clear hl3 ho3 hf3
    go_wp2_with fail
    go_roundw
    case rel => exact ⟨j + 1, A3, k3, by go_num, by omega, by rw [HNX.out], by rw [HNX.out, HFS.out, List.map_append, HEQ.out]; exact HL3.out, hs3, HK3.out⟩
    case measure => simp [intOf]; omega
  have hil : i < L.length := by rw [HN.out]; exact hlt
  obtain ⟨B, c, hB⟩ := H.out.at_ hil
  obtain ⟨cB, -⟩ := hB wr hs
  have lb2 : b < wr.heap.size := Nat.lt_of_lt_of_le H.out.lt hs.size
  have hli := H.out.few _ (List.getElem_mem hil)
  have HNX := Lib.hid (totN_succ hil)
  have hlt' : (i : Int) < (n : Int) := by omega
  obtain ⟨m, hm⟩ : ∃ m, L[i].length = m := ⟨_, rfl⟩
  rw [hm] at cB HNX hli
  have hw1 : IntKind.i64.wrap ((totN L i : Int) + (m : Int)) = ((totN L i + m : Nat) : Int) := by rw [IntWalk.i64_in _ (by omega)]; rfl
  have hng : decide (((totN L i + m : Nat) : Int) < 0) = false := by simp only [decide_eq_false_iff_not]; omega
  clear hB hm hil
  go_wp2_with fail
  go_roundw
  case rel => exact ⟨i + 1, by go_num, by omega, by rw [HNX.out, Int.natCast_add], (by exact hs)⟩
  case measure => simp [intOf]; omega
theorem came_top {L : List Rng} (h : rngE L = 0) {n : Int} (hn : inB L n = true) : n ≤ (rat L 0).hi := by
 obtain ⟨r, hr, h1, h2⟩ := inB_iff.1 hn
 obtain ⟨i, hi, rfl⟩ := List.getElem_of_mem hr
 have hc := rngE_canon h
 rw [← rat_get hi] at h2
 rcases Nat.eq_zero_or_pos i with h0 | h0
 · subst h0; exact h2
 · have a := canon_rat hc h0 hi
   have b := hc.ok (rat L 0) (by rw [rat_get (by omega)]; exact List.getElem_mem _)
   omega
def EnS.acked (s : EnS) (A : List Rng) : EnS := if A = [] then s else { s with told := tellRs s.made s.told A, known := max s.known (rat A 0).hi }
def EnS.got (y : EnS) (n : Nat) (A : List Rng) (Lc : Int) (C' : Int) (M' : Plc) : EnS := { y.acked A with may := max y.may Lc, C := C', M := M', came := addL y.came n }
structure MadeIs (w : World) (mv : Value) (vs : List Value) (L : List (List Pc)) : Prop where
 len : vs.length = L.length
 lm : Lst w 95 1 mv (vs.map fun v => [v])
 lp : ∀ (i : Nat) v ps, vs[i]? = some v → L[i]? = some ps → Lst w 98 2 v (ps.map pcRow)
theorem EnIn.made {w : World} {S : List Nat} {g : Nat} {s : EnS} {p : EnP} (h : EnIn w S g s p) : MadeIs w p.mv p.vs s.made := ⟨h.len, h.lm, fun i v ps h1 h2 => h.lp h1 h2⟩
theorem MadeIs.later {w w' : World} {mv : Value} {vs : List Value} {L : List (List Pc)} (h : MadeIs w mv vs L) (hb : Below w.heap.size w w') : MadeIs w' mv vs L := ⟨h.len, h.lm.later hb, fun i v ps h1 h2 => (h.lp i v ps h1 h2).later hb⟩
theorem Lst.other {w w' : World} {E size g : Nat} {v : Value} {es : List (List Value)} {t : TypeId} {cs : Array Value} (h : Lst w E size v es) (hb : BlockIs w g t cs) (ht : t ≠ E) (ho : Out w w' [g]) : Lst w' E size v es :=
 h.kept ho (fun k hk hm => h.apart hb ht ((List.mem_singleton.1 hm) ▸ hk))
theorem MadeIs.other {w w' : World} {g : Nat} {mv : Value} {vs : List Value} {L : List (List Pc)} {t : TypeId} {cs : Array Value} (h : MadeIs w mv vs L) (hb : BlockIs w g t cs) (h1 : t ≠ 95) (h2 : t ≠ 98) (ho : Out w w' [g]) : MadeIs w' mv vs L :=
 ⟨h.len, h.lm.other hb h1 ho, fun i v ps e1 e2 => (h.lp i v ps e1 e2).other hb h2 ho⟩
theorem single_get {vs : List Value} {i : Nat} {v : Value} (h : vs[i]? = some v) : (vs.map fun v => [v])[i]? = some [v] := by rw [List.getElem?_map, h]; rfl
theorem MadeIs.part {w : World} {gm n cap : Nat} {vs : List Value} {L : List (List Pc)} (h : MadeIs w (.slice (some ⟨gm, 0, none⟩) n cap) vs L) (hf : ∀ ps ∈ L, ps.length ≤ 3) (lo hi : Nat) : PcsR w gm lo ((vs.take hi).drop lo) ((L.take hi).drop lo) := by
 have hg : ∀ (i : Nat) v, vs[i]? = some v → w.cell? ⟨gm, i, none⟩ = some v := fun i v hv => by
  have := h.lm.cell rfl (single_get hv) (j := 0) rfl
  simpa using this
 refine ⟨by simp [h.len], ?_, fun i v hv => ?_, fun i v ps h1 h2 => ?_, fun ps hps => hf ps (List.mem_of_mem_take (List.mem_of_mem_drop hps))⟩
 · exact h.lm.lt gm (by rw [blocks_at]; simp)
 · rw [List.getElem?_drop, List.getElem?_take] at hv
   split at hv
   · exact hg _ _ hv
   · cases hv
 · rw [List.getElem?_drop, List.getElem?_take] at h1 h2
   split at h1
   · rename_i hlt
     rw [if_pos hlt] at h2
     exact Rd.of_lst (h.lp _ _ _ h1 h2)
   · cases h1
theorem Lst.pc {w : World} {A : Option Addr} {n cap : Nat} {P : List Pc} (h : Lst w 98 2 (.slice A n cap) (P.map pcRow)) {j : Nat} (hj : j < P.length) : ∃ b, A = some ⟨b, 0, none⟩ ∧ b < w.heap.size ∧ w.cell? ⟨b, j * 2, none⟩ = some (.int .i64 P[j].at_) ∧ w.cell? ⟨b, j * 2 + 1, none⟩ = some (.string P[j].d) := by
 obtain ⟨A', cap', e, _, _, h3⟩ := h.shape
 simp only [Value.slice.injEq] at e
 obtain ⟨rfl, _, _⟩ := e
 rcases h3 with ⟨_, h0, _⟩ | ⟨b, rfl⟩
 · have := congrArg List.length h0
   simp at this
   subst this
   simp at hj
 · have he : (P.map pcRow)[j]? = some (pcRow P[j]) := by rw [List.getElem?_map, List.getElem?_eq_getElem hj]; rfl
   exact ⟨b, rfl, h.lt b (by rw [blocks_at]; simp), h.cell rfl he (j := 0) rfl, h.cell rfl he (j := 1) rfl⟩
theorem pcs_succ {P : List Pc} {j : Nat} (h : j < P.length) (T : List Bool) : tellPcs T (P.take (j + 1)) = tellN (tellPcs T (P.take j)) P[j].at_ P[j].d.size := by
 unfold tellPcs
 rw [List.take_succ_eq_append_getElem h, List.foldl_append]; rfl
theorem rs_succ {M : List (List Pc)} {R : List Rng} {i : Nat} (h : i < R.length) (T : List Bool) : tellRs M T (R.take (i + 1)) = tellPcs (tellRs M T (R.take i)) (pcsOf M (rat R i)) := by
 unfold tellRs
 rw [List.take_succ_eq_append_getElem h, List.foldl_append, rat_get h]; rfl
theorem told_put {w : World} {g : Nat} {s : EnS} {T : List Bool} {mv cv : Value} {gi gl a q : Nat} (h : BlockIs w g 83 (enCells { s with told := tellN T a q } mv cv gi gl).toArray) (hT : T.length = 60) (ha : a + q < 60) :
  BlockIs (w.setCell ⟨g, 1 + (a + q), none⟩ (.bool true)) g 83 (enCells { s with told := tellN T a (q + 1) } mv cv gi gl).toArray := by
 have h1 := h.put (1 + (a + q)) (.bool true)
 rw [enCells_setTold (s := { s with told := tellN T a q }) mv cv gi gl (by show (tellN T a q).length = 60; rw [tellN_len]; exact hT) ha] at h1
 exact h1
def EnS.ackE (s : EnS) (R : List Rng) : Int := if (s.made.length : Int) ≤ (rat R 0).hi then 6 else 0
def EnS.ack (s : EnS) (R : List Rng) : EnS := if (s.made.length : Int) ≤ (rat R 0).hi then s else { s with told := tellRs s.made s.told R, known := max s.known (rat R 0).hi }
theorem eackd (gx gi gl : Nat) (mv cv : Value) (vs : List Value) (s : EnS) (A : Option Addr) (n cap : Nat) (R : List Rng) (w : World) (hb : BlockIs w gx 83 (enCells s mv cv gi gl).toArray) (ok : EnOk s) (hm : MadeIs w mv vs s.made) (h1000 : s.made.length ≤ 1000)
  (hR : Lst w 101 2 (.slice A n cap) (R.map rngRow)) (hn : R.length = n) (h0 : 0 < n) (hE : rngE R = 0) :
  Calls Tryz.prog 100 #[.pointer (some ⟨gx, 0, none⟩), .slice A n cap] w fun e w' => e = .returned (errV (s.ackE R)) ∧ BlockIs w' gx 83 (enCells (s.ack R) mv cv gi gl).toArray ∧ Out w w' [gx] := by
 have HB := Lib.hid hb
 have HOK := Lib.hid ok
 have HM := Lib.hid hm
 have HR := Lib.hid hR
 have HN := Lib.hid hn
 have HE := Lib.hid hE
 obtain ⟨gm0, cm, hmv, -, -, -⟩ := hm.lm.shape
 rw [List.length_map, hm.len] at hmv
 have HMV := Lib.hid hmv
 obtain ⟨b, off, hA, hlt, hcc⟩ := (Rd.of_lst hR).rng (i := 0) (by omega)
 subst hA
 have e1 := (hcc w (Since.refl w) 0 (by omega)).2
 rw [Nat.zero_mul, Nat.add_zero] at e1
 have c62 : w.cell? ⟨gx, 62, none⟩ = some mv := (hb.cell 62).trans (enCells_tail mv cv gi gl ok.tl 1)
 rw [hmv] at c62
 have lg := hb.lt
 have hng0 : (0 : Int) < (n : Int) := by omega
 have hn12 : n ≤ 12 := by rw [← hn]; exact rngE_len hE
 by_cases hbig : (s.made.length : Int) ≤ (rat R 0).hi
 · have HS : Hid (s.ackE R = 6 ∧ s.ack R = s) := Lib.hid ⟨by unfold EnS.ackE; rw [if_pos hbig], by unfold EnS.ack; rw [if_pos hbig]⟩
   rw [HS.out.1, HS.out.2]
   generalize rat R 0 = r at *
   clear hb ok hm hR hn hE hmv hcc
   go_enter Tryz.func100, Tryz.ntmps100
   go_wp2_with fail
   go_quiet (fail)
   go_wp2_with fail
   go_ret
   exact ⟨rfl, HB.out.drewN _, (Out.refl _ _).drewN _⟩
 have hlt0 : (rat R 0).hi < s.made.length := by omega
 have HS : Hid (s.ackE R = 0 ∧ s.ack R = { s with told := tellRs s.made s.told R, known := max s.known (rat R 0).hi }) := Lib.hid ⟨by unfold EnS.ackE; rw [if_neg hbig], by unfold EnS.ack; rw [if_neg hbig]⟩
 rw [HS.out.1, HS.out.2, errV_zero]
 have HLE : Hid (∀ i, i < n → 0 ≤ (rat R i).lo ∧ (rat R i).lo ≤ (rat R i).hi ∧ (rat R i).hi < s.made.length) := Lib.hid (fun i hi => by
  have hr : rat R i ∈ R := by rw [rat_get (by omega)]; exact List.getElem_mem _
  obtain ⟨p1, p2⟩ := rngE_ok hE _ hr
  have p3 := (rngE_canon hE).ok _ hr
  have p4 := came_top hE (inB_iff.2 ⟨_, hr, p3, Int.le_refl _⟩)
  omega)
 have hbig' : decide ((s.made.length : Int) ≤ (rat R 0).hi) = false := by simpa using hbig
 have HRC : Hid (∀ X, Out w X [gx] → ∀ i, i < n → X.cell? ⟨b, i * 2, none⟩ = some (.int .i64 (rat R i).lo) ∧ X.cell? ⟨b, i * 2 + 1, none⟩ = some (.int .i64 (rat R i).hi) ∧ b < X.heap.size) := Lib.hid (fun X hX i hi => by
  have h1 := HR.out.other HB.out (by decide) hX
  obtain ⟨b', off', e', hl', hc'⟩ := (Rd.of_lst h1).rng (i := i) (by omega)
  have h2 := h1.lt
  obtain ⟨A9, c9, e9, _, _, h9⟩ := h1.shape
  simp only [Value.slice.injEq] at e9
  rcases h9 with ⟨h9, _⟩ | ⟨g9, h9⟩
  · rw [h9] at e9; exact absurd e9.1 (by simp)
  · rw [h9] at e9
    simp only [Option.some.injEq, Addr.mk.injEq] at e9
    obtain ⟨⟨rfl, rfl, _⟩, _⟩ := e9
    simp only [Option.some.injEq, Addr.mk.injEq] at e'
    obtain ⟨rfl, rfl, _⟩ := e'
    have := hc' X (Since.refl X) i (by omega)
    rw [Nat.zero_add] at this
    exact ⟨this.1, this.2, hl'⟩)
 have hoff : off = 0 := by
  obtain ⟨A9, c9, e9, _, _, h9⟩ := hR.shape
  simp only [Value.slice.injEq] at e9
  rcases h9 with ⟨h9, _⟩ | ⟨g9, h9⟩
  · rw [h9] at e9; exact absurd e9.1 (by simp)
  · rw [h9] at e9
    simp only [Option.some.injEq, Addr.mk.injEq] at e9
    exact e9.1.2.1
 subst hoff
 have HT : Hid (∀ X T, T.length = 60 → BlockIs X gx 83 (enCells { s with told := T } mv cv gi gl).toArray → X.cell? ⟨gx, 62, none⟩ = some mv ∧ X.cell? ⟨gx, 63, none⟩ = some (.int .i64 s.known) ∧ (∀ i, X.frozen? ⟨gx, i, none⟩ = false) ∧ gx < X.heap.size ∧ ∀ i, i < 60 → X.cell? ⟨gx, 1 + i, none⟩ = some (.bool (tat T i))) := Lib.hid (fun X T hT h =>
  ⟨(h.cell 62).trans (enCells_tail (s := { s with told := T }) mv cv gi gl hT 1), (h.cell 63).trans (enCells_tail (s := { s with told := T }) mv cv gi gl hT 2), h.free, h.lt, fun i hi => (h.cell _).trans (enCells_told (s := { s with told := T }) mv cv gi gl hT hi)⟩)
 have HB0 : Hid (BlockIs w gx 83 (enCells { s with told := tellRs s.made s.told (R.take 0) } mv cv gi gl).toArray) := Lib.hid (by rw [List.take_zero]; exact hb)
 have HTL : Hid (∀ i, (tellRs s.made s.told (R.take i)).length = 60) := Lib.hid (fun i => by rw [tellRs_len]; exact ok.tl)
 have hcl : s.made.length ≤ cm := by
  obtain ⟨A9, c9, e9, h1, _, _⟩ := hm.lm.shape
  rw [hmv] at e9
  simp only [Value.slice.injEq] at e9
  rw [List.length_map, hm.len] at h1
  omega
 clear hb ok hm hR hn hE hmv hcc hbig HS
 go_enter Tryz.func100, Tryz.ntmps100
 go_wp2_with fail
 go_quiet (fail)
 go_wp2_with fail
 go_loopw [23] (fun s23 wr => ∃ i : Nat, s23 = .int .i64 i ∧ i ≤ n ∧ BlockIs wr gx 83 (enCells { s with told := tellRs s.made s.told (R.take i) } mv cv gi gl).toArray ∧ Out w wr [gx]) (fun s23 _ => n - (intOf s23).toNat)
 case atStart => exact ⟨0, rfl, Nat.zero_le _, HB0.out.drewN _, (Out.refl _ _).drewN _⟩
 case round =>
  obtain ⟨i, rfl, hi, hbi, hoi⟩ := hrel
  have HBI := Lib.hid hbi
  have HOI := Lib.hid hoi
  obtain ⟨d62, d63, fz, lx, -⟩ := HT.out wr _ (HTL.out i) hbi
  rw [HMV.out] at d62
  clear hbi hoi
  by_cases hlt1 : i < n
  case neg =>
   obtain rfl : i = n := by omega
   have hlt' : decide ((i : Int) < (i : Int)) = false := by simp
   obtain ⟨-, r1, lb⟩ := HRC.out wr HOI.out 0 h0
   have HFIN : Hid (∀ z, z = max s.known (rat R 0).hi → BlockIs (wr.setCell ⟨gx, 63, none⟩ (.int .i64 z)).drew gx 83 (enCells { s with told := tellRs s.made s.told R, known := max s.known (rat R 0).hi } mv cv gi gl).toArray ∧ Out w (wr.setCell ⟨gx, 63, none⟩ (.int .i64 z)).drew [gx]) := Lib.hid (fun z hz => by
    subst hz
    have h1 := (HBI.out.put 63 (.int .i64 (max s.known (rat R 0).hi))).drew
    rw [enCells_63 (s := { s with told := tellRs s.made s.told (R.take i) }) mv cv gi gl (HTL.out i)] at h1
    rw [show R.take i = R by rw [← HN.out, List.take_length]] at h1
    exact ⟨h1, (HOI.out.put (p := ⟨gx, 63, none⟩) (Or.inl (by simp)) _).drew⟩)
   rw [Nat.zero_mul, Nat.zero_add] at r1
   obtain ⟨x0, hx0⟩ : ∃ x, (rat R 0).hi = x := ⟨_, rfl⟩
   rw [hx0] at r1
   have HX0 := Lib.hid hx0
   clear hx0
   go_wp2_with fail
   go_region
   all_goals
    go_wp2_with fail
    go_ret
    exact ⟨rfl, (HFIN.out _ (by rw [HX0.out])).1, (HFIN.out _ (by rw [HX0.out])).2⟩
  obtain ⟨r0, r1, lb⟩ := HRC.out wr HOI.out i hlt1
  obtain ⟨q1, q2, q3⟩ := HLE.out i hlt1
  have hlt' : (i : Int) < (n : Int) := by omega
  obtain ⟨lo, hlo⟩ : ∃ lo : Nat, (rat R i).lo = lo := Int.eq_ofNat_of_zero_le q1
  obtain ⟨hi', hhi⟩ : ∃ h : Nat, (rat R i).hi = h := Int.eq_ofNat_of_zero_le (Int.le_trans q1 q2)
  rw [hlo] at r0 q1 q2
  rw [hhi] at r1 q2 q3
  have HPC : Hid (pcsOf s.made (rat R i) = ((s.made.take (hi' + 1)).drop lo).flatten) := Lib.hid (by unfold pcsOf; rw [hlo, hhi]; rfl)
  have HRS := Lib.hid (rs_succ (M := s.made) (T := s.told) (show i < R.length by rw [HN.out]; exact hlt1))
  rw [HPC.out] at HRS
  obtain ⟨P, hP⟩ : ∃ P, ((s.made.take (hi' + 1)).drop lo).flatten = P := ⟨_, rfl⟩
  rw [hP] at HRS
  have HMW := HM.out.other HB.out (by decide) (by decide) HOI.out
  rw [HMV.out] at HMW
  obtain ⟨gm, rfl⟩ : ∃ gm, gm0 = some ⟨gm, 0, none⟩ := by
   obtain ⟨A9, c9, e9, h1, _, h9⟩ := HMW.lm.shape
   simp only [Value.slice.injEq] at e9
   obtain ⟨rfl, h2, rfl⟩ := e9
   rcases h9 with ⟨_, h3, _⟩ | ⟨g9, h9⟩
   · have := congrArg List.length h3
     rw [List.length_map, HMW.len] at this
     simp at this
     omega
   · exact ⟨g9, h9⟩
  have HPR := Lib.hid (HMW.part (fun ps hps => (HOK.out.md ps hps).1) lo (hi' + 1))
  have hlenp : ((s.made.take (hi' + 1)).drop lo).length = hi' + 1 - lo := by rw [List.length_drop, List.length_take]; omega
  have HPM : Hid (∀ p ∈ P, p.at_ + p.d.size ≤ 60) := Lib.hid (fun p hp => by
   rw [← hP] at hp
   obtain ⟨ps, h1, h2⟩ := List.mem_flatten.1 hp
   exact (HOK.out.md ps (List.mem_of_mem_take (List.mem_of_mem_drop h1))).2 p h2)
  have HCC := Lib.hid (fun (X : World) (hX : Below wr.heap.size wr X) (c : Nat) => pconcat gm lo (hi' + 1 - lo) c _ _ X hlenp (by omega) (HPR.out.later hX))
  rw [hP] at HCC
  have lo_le : (lo : Int) ≤ (hi' : Int) + 1 := by omega
  have hi_le : (hi' : Int) + 1 ≤ (cm : Int) := by omega
  have hto1 : ((hi' : Int) + 1).toNat = hi' + 1 := by omega
  have hnc : ¬ cm = lo := by omega
  have hw1 : IntKind.i64.wrap ((hi' : Int) + 1) = (hi' : Int) + 1 := IntWalk.i64_in _ (by omega)
  obtain ⟨m, hm⟩ : ∃ m, P.length = m := ⟨_, rfl⟩
  rw [hm] at HCC
  have HMM := Lib.hid hm
  have hm3 : m ≤ 3 * (hi' + 1 - lo) := by
   rw [← hm, ← hP, ← hlenp]
   exact flat_few HPR.out.few
  clear hP hlo hhi hlenp HMW hm
  go_upto_region 6 with fail
  go_cut [37, 38, 39] (fun s37 s38 s39 wx => ∃ A2 c2, s37 = .slice A2 m c2 ∧ s38 = .int .i64 m ∧ s39 = .int .i64 0 ∧ Lst wx 98 2 (.slice A2 m c2) (P.map pcRow) ∧ Since wr wx)
  case first =>
   go_region_law (go_simp; go_at_call 133; refine (HCC.out _ (show Since wr _ from (by exact Since.drew (Since.alloc (Since.refl _) _))) _).mono ?_; rintro e w2 ⟨A2, c2, rfl, hl2, hb2, hk2⟩; have HL2 := Lib.hid hl2; have HB2 := Lib.hid (show Since wr w2 from (by exact Since.later (Since.drew (Since.alloc (Since.refl _) _)) hb2)); clear hl2 hb2 hk2)
   all_goals
    go_wp2_with fail
    go_meet
    case rel => exact ⟨A2, c2, rfl, rfl, rfl, HL2.out, HB2.out⟩
  case rest =>
   obtain ⟨A2, c2, rfl, rfl, rfl, hl2, hs2⟩ := hcut
   have HL2 := Lib.hid hl2
   have HB2 := Lib.hid hs2
   obtain ⟨Ti, hTi⟩ : ∃ T, tellRs s.made s.told (R.take i) = T := ⟨_, rfl⟩
   have hT60 : Hid (Ti.length = 60) := Lib.hid (by rw [← hTi]; exact HTL.out i)
   rw [hTi] at HRS HBI
   have HBI2 := Lib.hid (HBI.out.later HB2.out)
   have HOI2 := Lib.hid (HOI.out.later HB2.out)
   clear hTi hl2 hs2
   obtain ⟨wo, hwo⟩ : ∃ wo : World, wo = wc := ⟨_, rfl⟩
   subst hwo
   go_wp2_with fail
   go_loopw [39] (fun s39 w7 => ∃ j : Nat, s39 = .int .i64 j ∧ j ≤ m ∧ BlockIs w7 gx 83 (enCells { s with told := tellPcs Ti (P.take j) } mv cv gi gl).toArray ∧ Out wo w7 [gx]) (fun s39 _ => m - (intOf s39).toNat)
   case atStart => exact ⟨0, rfl, Nat.zero_le _, by rw [List.take_zero]; exact HBI2.out, Out.refl _ _⟩
   case round =>
    obtain ⟨j, rfl, hj, hbj, hoj⟩ := hrel
    have HOJ := Lib.hid hoj
    have HTJ : Hid ((tellPcs Ti (P.take j)).length = 60) := Lib.hid (by rw [tellPcs_len]; exact hT60.out)
    have HLJ := Lib.hid (HL2.out.other HBI2.out (by decide) hoj)
    have lx7 := hbj.lt
    have HBJ := Lib.hid hbj
    clear hbj hoj
    by_cases hlt2 : j < m
    case neg =>
     obtain rfl : j = m := by omega
     have hlt2' : decide ((j : Int) < (j : Int)) = false := by simp
     go_wp2_with fail
     go_roundw
     case rel => exact ⟨i + 1, by go_num, by omega, by rw [HRS.out]; have h1 := HBJ.out; rw [show P.take j = P by rw [← HMM.out, List.take_length]] at h1; exact h1, HOI2.out.trans HOJ.out⟩
     case measure => simp [intOf]; omega
    have hjP : j < P.length := by rw [HMM.out]; exact hlt2
    obtain ⟨b2, hA2, lb2, p0, p1⟩ := HLJ.out.pc hjP
    subst hA2
    have hp60 := HPM.out _ (List.getElem_mem hjP)
    have HPS := Lib.hid (pcs_succ hjP Ti)
    obtain ⟨Tj, hTj⟩ : ∃ T, tellPcs Ti (P.take j) = T := ⟨_, rfl⟩
    obtain ⟨⟨a, d⟩, hpp⟩ : ∃ p, P[j] = p := ⟨_, rfl⟩
    rw [hTj] at HPS HTJ HBJ
    rw [hpp] at p0 p1 hp60 HPS
    dsimp only at p0 p1 hp60 HPS
    have hlt2' : (j : Int) < (m : Int) := by omega
    clear hpp hTj hjP
    obtain ⟨wp, hwp⟩ : ∃ wp : World, wp = wr := ⟨_, rfl⟩
    subst hwp
    go_wp2_with fail
    go_loopw [46] (fun s46 w9 => ∃ q : Nat, s46 = .int .i64 q ∧ q ≤ d.size ∧ BlockIs w9 gx 83 (enCells { s with told := tellN Tj a q } mv cv gi gl).toArray ∧ BlockIs w9 wp.heap.size 98 #[.int .i64 a, .string d] ∧ Out wp w9 [gx]) (fun s46 _ => d.size - (intOf s46).toNat)
    case atStart => exact ⟨0, rfl, Nat.zero_le _, HBJ.out.alloc _, BlockIs.fresh _ _ _, (Out.refl _ _).alloc _⟩
    case round =>
     obtain ⟨q, rfl, hq, hbq, hpq, hoq⟩ := hrel
     have HBQ := Lib.hid hbq
     have HPQ := Lib.hid hpq
     have HOQ := Lib.hid hoq
     have g0 : wr.cell? ⟨wp.heap.size, 0, none⟩ = some (.int .i64 a) := hpq.cell 0
     have g1 : wr.cell? ⟨wp.heap.size, 1, none⟩ = some (.string d) := hpq.cell 1
     have lp := hpq.lt
     have ltn : (tellN Tj a q).length = 60 := by rw [tellN_len]; exact HTJ.out
     obtain ⟨-, -, fz9, lx9, ct9⟩ := HT.out wr _ ltn hbq
     clear hbq hpq hoq
     by_cases hlt3 : q < d.size
     case neg =>
      obtain rfl : q = d.size := by omega
      have hlt3' : decide ((d.size : Int) < (d.size : Int)) = false := by simp
      clear ct9
      go_wp2_with fail
      go_roundw
      case rel => exact ⟨j + 1, by go_num, by omega, by rw [HPS.out]; exact HBQ.out, HOJ.out.trans HOQ.out⟩
      case measure => simp [intOf]; omega
     have c9 := ct9 (a + q) (by omega)
     have hlt3' : (q : Int) < (d.size : Int) := by omega
     have hwq : IntKind.i64.wrap ((a : Int) + (q : Int)) = (a : Int) + (q : Int) := IntWalk.i64_in _ (by omega)
     have haq0 : (0 : Int) ≤ (a : Int) + (q : Int) := by omega
     have haq1 : (a : Int) + (q : Int) < 60 := by omega
     have haqn : ((a : Int) + (q : Int)).toNat = a + q := by omega
     have HPUT := Lib.hid (told_put HBQ.out HTJ.out (by omega))
     clear ct9
     go_wp2_with fail
     go_region
     all_goals
      go_wp2_with fail
      go_roundw
      case rel => exact ⟨q + 1, by go_num, by omega, HPUT.out.drew, (HPQ.out.far (by simp; omega) _).drew, (HOQ.out.put (p := ⟨gx, 1 + (a + q), none⟩) (Or.inl (by simp)) _).drew⟩
      case measure => simp [intOf]; omega
structure EnW (w : World) (gx gi gl : Nat) (mv cv : Value) (s : EnS) : Prop where
 bx : BlockIs w gx 83 (enCells s mv cv gi gl).toArray
 bi : BlockIs w gi 146 (strCells s.M s.t)
 bl : BlockIs w gl 143 (credCells s.W s.L s.C s.R)
theorem block_ne {w : World} {g h : Nat} {t u : TypeId} {cs ds : Array Value} (h1 : BlockIs w g t cs) (h2 : BlockIs w h u ds) (ne : t ≠ u) : g ≠ h := by
 rintro rfl
 unfold BlockIs at h1 h2
 rw [h1] at h2
 simp only [Option.some.injEq, Obj.cells.injEq] at h2
 exact ne h2.2.1
theorem EnW.later {w w' : World} {gx gi gl : Nat} {mv cv : Value} {s : EnS} (h : EnW w gx gi gl mv cv s) (hb : Below w.heap.size w w') : EnW w' gx gi gl mv cv s := ⟨h.bx.later hb, h.bi.later hb, h.bl.later hb⟩
theorem EnW.ne {w : World} {gx gi gl : Nat} {mv cv : Value} {s : EnS} (h : EnW w gx gi gl mv cv s) : gx ≠ gi ∧ gx ≠ gl ∧ gi ≠ gl := ⟨block_ne h.bx h.bi (by decide), block_ne h.bx h.bl (by decide), block_ne h.bi h.bl (by decide)⟩
theorem take1_two {s : EnS} {f : Frm} (h : f.kind = 2) : s.take1E f = s.ackE (pairs f.nums) ∧ s.take1 f = s.ack (pairs f.nums) := by
 unfold EnS.take1E EnS.take1 EnS.ackE EnS.ack
 rw [if_pos h, if_pos h]
 exact ⟨rfl, rfl⟩
theorem ack_rest (s : EnS) (R : List Rng) : (s.ack R).M = s.M ∧ (s.ack R).t = s.t ∧ (s.ack R).W = s.W ∧ (s.ack R).L = s.L ∧ (s.ack R).C = s.C ∧ (s.ack R).R = s.R := by
 unfold EnS.ack; split <;> simp
theorem etake1 (gx gi gl : Nat) (mv cv : Value) (vs : List Value) (s : EnS) (p : FrmV) (w : World) (hw : EnW w gx gi gl mv cv s) (ok : EnOk s) (hm : MadeIs w mv vs s.made) (h1000 : s.made.length ≤ 1000) (hp : FrmIn w p) (hE : frmE p.f = 0) :
  Calls Tryz.prog 57 #[.pointer (some ⟨gx, 0, none⟩), p.agg] w fun e w' => e = .returned (errV (s.take1E p.f)) ∧ EnW w' gx gi gl mv cv (s.take1 p.f) ∧ Out w w' [gx, gi, gl] := by
 have HW := Lib.hid hw
 have HOK := Lib.hid ok
 have HM := Lib.hid hm
 have HP := Lib.hid hp
 have HE := Lib.hid hE
 obtain ⟨⟨kind, nums, data⟩, A, cap⟩ := p
 have hB0 : Hid (∀ z : World, Since w (w.alloc (.cells #[.int .i64 kind, .slice A nums.length cap, .string data] 93))) := Lib.hid (fun _ => (by exact Since.alloc (Since.refl _) _))
 by_cases h2 : kind = 2
 · subst h2
   have HT := Lib.hid (take1_two (s := s) (f := ⟨2, nums, data⟩) rfl)
   have h4 := frm_two hE rfl
   dsimp only at h4 HT
   rw [HT.out.1, HT.out.2]
   have HF := Lib.hid (fun (X : World) (hX : Since w X) => franges A cap nums (pairs nums).length X (hp.nums.keep hX) h4.2.2.1 h4.2.1 h4.2.2.2)
   have HA := Lib.hid (fun (X : World) (hX : Since w X) A1 c1 hl => eackd gx gi gl mv cv vs s A1 (pairs nums).length c1 (pairs nums) X (hw.bx.later hX) ok (hm.later hX) h1000 hl rfl h4.2.1 h4.1)
   clear hw ok hm hp hE h4
   go_enter Tryz.func57, Tryz.ntmps57
   go_wp2_with (first
    | (go_at_call 101; refine (HF.out _ (by exact Since.alloc (Since.refl _) _)).mono ?_; rintro e w1 ⟨A1, c1, rfl, hl1, hb1, hk1⟩; have hs1 : Since w w1 := (show Since w w1 from (by exact Since.later (Since.alloc (Since.refl _) _) hb1)))
    | (go_at_call 100; refine (HA.out _ hs1 A1 c1 hl1).mono ?_; rintro e w2 ⟨rfl, hx2, ho2⟩))
   go_ret
   obtain ⟨e1, e2, e3, e4, e5, e6⟩ := ack_rest s (pairs nums)
   obtain ⟨n1, n2, n3⟩ := HW.out.ne
   refine ⟨rfl, ⟨hx2, ?_, ?_⟩, ((Out.of_below hs1 [gx]).trans ho2).mono (fun k hk => Or.inl (by rw [List.mem_singleton.1 hk]; simp))⟩
   · rw [e1, e2]; exact ho2.block' (HW.out.bi.later hs1) (by simp; omega)
   · rw [e3, e4, e5, e6]; exact ho2.block' (HW.out.bl.later hs1) (by simp; omega)
 have k2 : (kind == 2) = false := by simpa using h2
 by_cases h4 : kind = 4
 · subst h4
   obtain ⟨hn, hmb⟩ := frm_four hE rfl
   dsimp only at hn hmb
   obtain ⟨z, hz⟩ : ∃ z, ith nums 0 = z := ⟨_, rfl⟩
   rw [hz] at hn hmb
   have hnum := hp.nums
   subst hn
   obtain ⟨-, A1, c1, hv, -, -, hcc⟩ := hnum
   simp only [FrmV.v, Value.slice.injEq] at hv
   obtain ⟨b, off, hA, hlt, hc⟩ := hcc (by simp)
   have hA' : A = some ⟨b, off, none⟩ := hv.1.trans hA
   subst hA'
   have hc0 : w.cell? ⟨b, off, none⟩ = some (.int .i64 z) := hc 0 (by simp)
   have HT : Hid (s.take1E ⟨4, [z], data⟩ = 0 ∧ s.take1 ⟨4, [z], data⟩ = { s with may := max s.may z }) := Lib.hid ⟨rfl, rfl⟩
   rw [HT.out.1, HT.out.2, errV_zero]
   have c61 : w.cell? ⟨gx, 61, none⟩ = some (.int .i64 s.may) := (hw.bx.cell 61).trans (enCells_tail _ _ _ _ ok.tl 0)
   have fx := hw.bx.free
   have lx := hw.bx.lt
   have HFIN : Hid (∀ (X : World) (y : Int), Since w X → y = max s.may z → EnW (X.setCell ⟨gx, 61, none⟩ (.int .i64 y)) gx gi gl mv cv { s with may := max s.may z } ∧ Out w (X.setCell ⟨gx, 61, none⟩ (.int .i64 y)) [gx, gi, gl]) := Lib.hid (fun X y hX hy => by
    subst hy
    obtain ⟨n1, n2, n3⟩ := hw.ne
    have h1 := (hw.bx.later hX).put 61 (.int .i64 (max s.may z))
    rw [enCells_61 _ _ _ _ ok.tl] at h1
    exact ⟨⟨h1, (hw.bi.later hX).far (fun h => n1 h.symm) _, (hw.bl.later hX).far (fun h => n2 h.symm) _⟩, (Out.of_below hX _).put (p := ⟨gx, 61, none⟩) (Or.inl (by simp)) _⟩)
   clear hw ok hm hp hE hc hcc hv hA
   go_enter Tryz.func57, Tryz.ntmps57
   go_wp2_with fail
   go_region
   all_goals
    go_wp2_with fail
    go_ret
    have h9 := HFIN.out w _ (Since.refl w) rfl
    exact ⟨rfl, h9.1.later (by exact Since.drew (Since.alloc (Since.refl _) _)), h9.2.later (by exact Since.drew (Since.alloc (Since.refl _) _))⟩
 have k4 : (kind == 4) = false := by simpa using h4
 by_cases h3 : kind = 3
 · subst h3
   obtain ⟨hn, hmb, hd20⟩ := frm_three hE rfl
   dsimp only at hn hmb hd20
   obtain ⟨z, hz⟩ : ∃ z, ith nums 0 = z := ⟨_, rfl⟩
   rw [hz] at hn hmb
   have hnum := hp.nums
   subst hn
   obtain ⟨-, A1, c1, hv, -, -, hcc⟩ := hnum
   simp only [FrmV.v, Value.slice.injEq] at hv
   obtain ⟨b, off, hA, hlt, hc⟩ := hcc (by simp)
   have hA' : A = some ⟨b, off, none⟩ := hv.1.trans hA
   subst hA'
   have hc0 : w.cell? ⟨b, off, none⟩ = some (.int .i64 z) := hc 0 (by simp)
   have hmb' := hmb
   unfold MayBe at hmb'
   have hwr : IntKind.i64.wrap (z + (data.size : Int)) = z + (data.size : Int) := IntWalk.i64_in _ (by omega)
   have HX : Hid (∀ X, Since w X → X.cell? ⟨gx, 65, none⟩ = some (.pointer (some ⟨gi, 0, none⟩)) ∧ X.cell? ⟨gx, 66, none⟩ = some (.pointer (some ⟨gl, 0, none⟩)) ∧ gx < X.heap.size) := Lib.hid (fun X hX => ⟨((hw.bx.later hX).cell 65).trans (enCells_tail _ _ _ _ ok.tl 4), ((hw.bx.later hX).cell 66).trans (enCells_tail _ _ _ _ ok.tl 5), (hw.bx.later hX).lt⟩)
   obtain ⟨c65, c66, lx⟩ := HX.out w (Since.refl w)
   have HCT := Lib.hid (fun (X : World) (hX : Since w X) => ctake_any gl s.W s.L s.C s.R (z + data.size) X (hw.bl.later hX))
   have HEE : Hid (s.take1E ⟨3, [z], data⟩ = if takeE s.L (z + data.size) = 0 then putE s.M z data.data.toList else takeE s.L (z + data.size)) := Lib.hid rfl
   have HTT : Hid (s.take1 ⟨3, [z], data⟩ = if takeE s.L (z + data.size) = 0 then { s with C := maxN s.C (z + data.size), M := putM s.M z data.data.toList } else s) := Lib.hid rfl
   clear hc hcc hv hA hp hm
   obtain ⟨RE, hRE⟩ : ∃ E, s.take1E ⟨3, [z], data⟩ = E := ⟨_, rfl⟩
   obtain ⟨RS, hRS⟩ : ∃ E, s.take1 ⟨3, [z], data⟩ = E := ⟨_, rfl⟩
   rw [hRE, hRS]
   have HE0 : Hid (takeE s.L (z + data.size) = 0 → RE = putE s.M z data.data.toList ∧ RS = { s with C := maxN s.C (z + data.size), M := putM s.M z data.data.toList }) := Lib.hid (fun h0 => ⟨by rw [← hRE, HEE.out, if_pos h0], by rw [← hRS, HTT.out, if_pos h0]⟩)
   have HE1 : Hid (¬ takeE s.L (z + data.size) = 0 → RE = takeE s.L (z + data.size) ∧ RS = s) := Lib.hid (fun h0 => ⟨by rw [← hRE, HEE.out, if_neg h0], by rw [← hRS, HTT.out, if_neg h0]⟩)
   clear hRE hRS HEE HTT
   have hne := Lib.hid hw.ne
   have HPT := Lib.hid (fun (X : World) (h : Sz X gi s.M s.t) => sput gi s.M s.t z data X h (by omega))
   have HTL := Lib.hid ok.tl
   have HSZ : Hid (∀ X, BlockIs X gi 146 (strCells s.M s.t) → Sz X gi s.M s.t) := Lib.hid (fun X h => ⟨h, ok.ml, ok.tt⟩)
   clear hw ok hE
   go_enter Tryz.func57, Tryz.ntmps57
   go_wp2_with fail
   go_region
   all_goals
    go_upto_region 9 with fail
    go_cut [6] (fun s6 wx => s6 = errV (takeE s.L (z + data.size)) ∧ EnW wx gx gi gl mv cv { s with C := tC s.L s.C (z + data.size) } ∧ BlockIs wx (w.heap.size + 1) 98 #[.int .i64 z, .string data] ∧ Out w wx [gx, gi, gl])
    case first =>
     go_region_law (go_simp; go_at_call 102; refine (HCT.out _ (show Since w _ from (by exact Since.drew (Since.drew (Since.alloc (Since.alloc (Since.refl _) _) _))))).mono ?_; rintro e w2 ⟨rfl, hb2, ho2⟩; have HB2 := Lib.hid hb2; have HO2 := Lib.hid ho2; clear hb2 ho2)
     all_goals
      go_wp2_with fail
      go_meet
      case rel =>
       obtain ⟨n1, n2, n3⟩ := hne.out
       have hsx : Since w ((w.alloc (.cells #[.int .i64 3, .slice (some ⟨b, off, none⟩) 1 cap, .string data] 93)).alloc (.cells #[.int .i64 z, .string data] 98)).drew.drew := (by exact Since.drew (Since.drew (Since.alloc (Since.alloc (Since.refl _) _) _)))
       have ho := Out.of_only HO2.out
       refine ⟨rfl, ⟨ho.block' (HW.out.bx.later hsx) (by simp; omega), ho.block' (HW.out.bi.later hsx) (by simp; omega), HB2.out⟩, ho.block' ((BlockIs.fresh_at (by simp)).drew.drew) ?_, ((Out.of_below hsx [gl]).trans ho).mono (fun k hk => Or.inl (by rw [List.mem_singleton.1 hk]; simp))⟩
       have := HW.out.bl.lt
       simp; omega
    case rest =>
     obtain ⟨rfl, hew, hpc, how⟩ := hcut
     have HEW := Lib.hid hew
     have HOW := Lib.hid how
     have d65 : wc.cell? ⟨gx, 65, none⟩ = some (.pointer (some ⟨gi, 0, none⟩)) := (hew.bx.cell 65).trans (enCells_tail (s := { s with C := tC s.L s.C (z + data.size) }) _ _ _ _ HTL.out 4)
     have lx9 := hew.bx.lt
     have p0 : wc.cell? ⟨w.heap.size + 1, 0, none⟩ = some (.int .i64 z) := hpc.cell 0
     have p1 : wc.cell? ⟨w.heap.size + 1, 1, none⟩ = some (.string data) := hpc.cell 1
     have lp := hpc.lt
     clear hew how hpc
     by_cases hT : takeE s.L (z + data.size) = 0
     · have HH := Lib.hid (HE0.out hT)
       rw [hT, errV_zero]
       have htC : tC s.L s.C (z + data.size) = maxN s.C (z + data.size) := by unfold tC; rw [if_pos hT]
       rw [htC] at HEW
       clear hT htC
       go_wp2_with fail
       go_region_law (go_simp; go_at_call 103; refine (HPT.out _ (HSZ.out _ (HEW.out.bi.later (show Since wc _ from (by exact Since.drew (Since.refl _)))))).mono ?_; rintro e w3 ⟨rfl, hz3, ho3⟩; have HZ3 := Lib.hid hz3; have HO3 := Lib.hid ho3; clear hz3 ho3)
       all_goals
        go_wp2_with fail
        go_ret
        obtain ⟨n1, n2, n3⟩ := hne.out
        rw [HH.out.1, HH.out.2]
        refine ⟨rfl, ⟨HO3.out.block' HEW.out.bx.drew (by simp; omega), HZ3.out.bl, HO3.out.block' HEW.out.bl.drew (by simp; omega)⟩, HOW.out.drew.trans (HO3.out.mono (fun k hk => Or.inl (by rw [List.mem_singleton.1 hk]; simp)))⟩
     · have HH := Lib.hid (HE1.out hT)
       have htC : tC s.L s.C (z + data.size) = s.C := by unfold tC; rw [if_neg hT]
       rw [htC] at HEW
       rw [errV_pos hT]
       have HEP := Lib.hid (errV_pos hT)
       obtain ⟨ee, hee⟩ : ∃ e, takeE s.L (z + data.size) = e := ⟨_, rfl⟩
       rw [hee] at HH HEP
       rw [hee]
       clear hT htC hee
       go_wp2_with fail
       go_ret
       rw [HH.out.1, HH.out.2, HEP.out]
       exact ⟨rfl, HEW.out, HOW.out⟩
 · have k3 : (kind == 3) = false := by simpa using h3
   have HT : Hid (s.take1E ⟨kind, nums, data⟩ = 3 ∧ s.take1 ⟨kind, nums, data⟩ = s) := Lib.hid ⟨by unfold EnS.take1E; rw [if_neg h2, if_neg h4, if_neg h3], by unfold EnS.take1; rw [if_neg h2, if_neg h4, if_neg h3]⟩
   rw [HT.out.1, HT.out.2]
   clear hw ok hm hp hE
   go_enter Tryz.func57, Tryz.ntmps57
   go_wp2_with fail
   go_ret
   exact ⟨rfl, HW.out.later (by exact Since.alloc (Since.refl _) _), Out.of_below (by exact Since.alloc (Since.refl _) _) _⟩
theorem stop_blk (n : Nat) {P : Program} {c d : Code} {Q : Exit → Act → World → Prop} {a : Act} {w : World} (h : Code.wp P ((Code.block n c).seq d) Q a w) : Code.wp P ((Code.block n c).seq d) Q a w := h
structure PsIn (w wr : World) (s : EnS) (a : Nat) (A : Option Addr) (k : Nat) (out : List Pc) : Prop where
 le : a ≤ s.last ∨ a = 0
 few : out.length ≤ 3
 ls : Lst wr 98 2 (.slice A out.length k) (out.map pcRow)
 nw : ∀ q, q ∈ blocks (.slice A 0 0) → w.heap.size ≤ q
 since : Since w wr
 rest : s.pieces = out ++ pcsR s.told s.last s.data a (3 - out.length)
theorem PsIn.skip {w wr : World} {s : EnS} {a k : Nat} {A : Option Addr} {out : List Pc} (h : PsIn w wr s a A k out) (hl : a < s.last) (h0 : strN s.told s.last 20 a = 0) : PsIn w wr s (a + 1) A k out :=
 ⟨Or.inl (by omega), h.few, h.ls, h.nw, h.since, by rw [← pcsR_skip h0]; exact h.rest⟩
theorem PsIn.done {w wr : World} {s : EnS} {a k : Nat} {A : Option Addr} {out : List Pc} (h : PsIn w wr s a A k out) (hl : ¬ (a < s.last ∧ out.length < 3)) : s.pieces = out := by
 have := h.rest
 have h3 := h.few
 rw [pcsR_none (by omega), List.append_nil] at this
 exact this
theorem PsIn.take {w wr w' : World} {s : EnS} {a k n q c : Nat} {A : Option Addr} {out : List Pc} (h : PsIn w wr s a A k out) (hl : a < s.last) (h3 : out.length < 3) (hn : strN s.told s.last 20 a = n) (h0 : n ≠ 0)
  (hls : Lst w' 98 2 (.slice (some ⟨q, 0, none⟩) (out.length + 1) c) (out.map pcRow ++ [pcRow ⟨a, s.data.extract a (a + n)⟩])) (hq : q ∈ blocks (.slice A 0 0) ∨ wr.heap.size ≤ q) (hs : Since w w') : PsIn w w' s (a + n) (some ⟨q, 0, none⟩) c (out ++ [⟨a, s.data.extract a (a + n)⟩]) := by
 have hle := strN_le s.told s.last 20 a
 refine ⟨Or.inl (by omega), by simp; omega, by rw [List.length_append, List.map_append]; exact hls, fun x hx => ?_, hs, ?_⟩
 · have : q = x := by simpa [Value.ownBlock] using hx
   subst this
   rcases hq with hq | hq
   · exact h.nw _ hq
   · exact Nat.le_trans h.since.size hq
 · rw [h.rest, pcsR_take hl (by omega) (by omega), hn, List.append_assoc, List.length_append]
   rfl
theorem epieces (g : Nat) (s : EnS) (p : EnP) (w : World) (S : List Nat) (h : EnIn w S g s p) :
  Calls Tryz.prog 50 #[.pointer (some ⟨g, 0, none⟩)] w fun e w' => ∃ A' cap', e = .returned (.slice A' s.pieces.length cap') ∧ Lst w' 98 2 (.slice A' s.pieces.length cap') (s.pieces.map pcRow) ∧ Below w.heap.size w w' ∧ ∀ k, k ∈ blocks (.slice A' 0 0) → w.heap.size ≤ k := by
 have H := Lib.hid h
 have c0 := h.c0
 have c61 := h.c61
 have lg := h.bg.lt
 have hla := h.ok.last
 have hdz := h.ok.dz
 have hmy := h.ok.my
 have hLI : Hid (min (s.data.size : Int) s.may = (s.last : Int)) := Lib.hid (by unfold EnS.last; omega)
 have HCT : Hid (∀ X, Since w X → ∀ i, i < 60 → X.cell? ⟨g, 1 + i, none⟩ = some (.bool (tat s.told i))) := Lib.hid (fun X hX i hi => hX.cell h.bg.lt (h.ct hi))
 have HC0 : Hid (∀ X, Since w X → X.cell? ⟨g, 0, none⟩ = some (.string s.data) ∧ g < X.heap.size) := Lib.hid (fun X hX => ⟨hX.cell h.bg.lt h.c0, Nat.lt_of_lt_of_le h.bg.lt hX.size⟩)
 have hP0 : PsIn w w.drew s 0 none 0 [] := ⟨Or.inr rfl, by simp, Lst.nil _ _ _, by simp [Value.ownBlock], (by exact Since.drew (Since.refl _)), by rfl⟩
 have HP0 := Lib.hid hP0
 clear h hP0
 go_enter Tryz.func50, Tryz.ntmps50
 have hli := hLI.out
 go_wp2_with fail
 go_region
 go_wp2_with fail
 go_loopw [3, 5] (fun s3 s5 wr => ∃ (a k : Nat) (A : Option Addr) (out : List Pc), s5 = .int .i64 a ∧ s3 = .slice A out.length k ∧ PsIn w wr s a A k out) (fun s3 s5 _ => s.last - (intOf s5).toNat)
 case atStart => exact ⟨0, 0, none, [], rfl, rfl, HP0.out⟩
 case round =>
  obtain ⟨a, k, A, out, rfl, rfl, hp⟩ := hrel
  have HP := Lib.hid hp
  have hfew := hp.few
  have hale := hp.le
  obtain ⟨d0, lx⟩ := HC0.out wr hp.since
  have HCTR := Lib.hid (HCT.out wr hp.since)
  clear hp
  obtain ⟨m, hm⟩ : ∃ m, out.length = m := ⟨_, rfl⟩
  rw [hm] at hfew
  have HM := Lib.hid hm
  rw [hm]
  clear hm
  by_cases hl : a < s.last
  case neg =>
   have hl' : decide ((a : Int) < (s.last : Int)) = false := by simp; omega
   have HD := Lib.hid (HP.out.done (by omega))
   go_wp2_with fail
   go_ret
   refine ⟨A, k, by rw [HD.out, HM.out]; rfl, ?_, HP.out.since, HP.out.nw⟩
   rw [HD.out]; exact HP.out.ls
  by_cases h3 : m < 3
  case neg =>
   have hl' : (a : Int) < (s.last : Int) := by omega
   have h3' : decide ((m : Int) < 3) = false := by simp; omega
   have HD := Lib.hid (HP.out.done (by rw [HM.out]; omega))
   go_wp2_with fail
   go_ret
   refine ⟨A, k, by rw [HD.out, HM.out]; rfl, ?_, HP.out.since, HP.out.nw⟩
   rw [HD.out]; exact HP.out.ls
  have hl' : (a : Int) < (s.last : Int) := by omega
  have h3' : (m : Int) < 3 := by omega
  repeat ((fail_if_success (with_reducible refine stop_blk 2 ?_)); first | fail | go_values | go_skip | go_guarded | go_step | go_upon | go_back | go_simp)
  go_step
  go_cut [6] (fun s6 wx => s6 = .int .i64 ((a + strN s.told s.last 20 a : Nat) : Int) ∧ wx = wr)
  case first =>
   obtain ⟨wo, hwo⟩ : ∃ wo : World, wo = wr := ⟨_, rfl⟩
   subst hwo
   go_wp2_with fail
   go_loopw [6] (fun s6 wi => ∃ n : Nat, s6 = .int .i64 ((a + n : Nat) : Int) ∧ n ≤ 20 ∧ (∀ j, j < n → a + j < s.last ∧ tat s.told (a + j) = false) ∧ wi = wo) (fun s6 _ => s.last - (intOf s6).toNat)
   case atStart => exact ⟨0, rfl, by omega, fun j hj => by omega, rfl⟩
   case round =>
    obtain ⟨n, rfl, hn20, hall, rfl⟩ := hrel
    have HA := Lib.hid hall
    obtain ⟨z, hz⟩ : ∃ z, a + n = z := ⟨_, rfl⟩
    have HZ := Lib.hid hz
    have hzz : (z : Int) - (a : Int) = (n : Int) := by omega
    have hwz : IntKind.i64.wrap ((z : Int) - (a : Int)) = (n : Int) := by rw [hzz]; exact IntWalk.i64_in _ (by omega)
    rw [hz]
    clear hall hz hzz
    by_cases hc1 : z < s.last
    case neg =>
     have hc1' : decide ((z : Int) < (s.last : Int)) = false := by simp; omega
     have HE : Hid (strN s.told s.last 20 a = n) := Lib.hid (strN_eq hn20 HA.out (Or.inr (by rw [HZ.out]; omega)))
     go_wp2_with fail
     go_meet
     case rel => exact ⟨by rw [HE.out, HZ.out], rfl⟩
    have hc1' : (z : Int) < (s.last : Int) := by omega
    by_cases hc2 : n < 20
    case neg =>
     have hc2' : decide ((n : Int) < 20) = false := by simp; omega
     have HE : Hid (strN s.told s.last 20 a = n) := Lib.hid (strN_eq hn20 HA.out (Or.inl (by omega)))
     go_wp2_with fail
     go_meet
     case rel => exact ⟨by rw [HE.out, HZ.out], rfl⟩
    have hc2' : (n : Int) < 20 := by omega
    have cz := HCTR.out z (by omega)
    have hz60 : (z : Int) < 60 := by omega
    cases hb : tat s.told z with
    | true =>
      rw [hb] at cz
      have HE : Hid (strN s.told s.last 20 a = n) := Lib.hid (strN_eq hn20 HA.out (Or.inr (by rw [HZ.out, hb]; simp)))
      clear hb
      go_wp2_with fail
      go_meet
      case rel => exact ⟨by rw [HE.out, HZ.out], rfl⟩
    | false =>
      rw [hb] at cz
      have HBB := Lib.hid hb
      clear hb
      go_wp2_with fail
      go_roundw
      case rel => exact ⟨n + 1, by have := HZ.out; go_num, by omega, fun j hj => by
       rcases Nat.lt_succ_iff_lt_or_eq.1 hj with h1 | h1
       · exact HA.out j h1
       · subst h1; rw [HZ.out]; exact ⟨by omega, HBB.out⟩, trivial⟩
      case measure => simp [intOf]; omega
  case rest =>
   obtain ⟨rfl, rfl⟩ := hcut
   obtain ⟨N, hN⟩ : ∃ N, strN s.told s.last 20 a = N := ⟨_, rfl⟩
   have hNle := strN_le s.told s.last 20 a
   rw [hN] at hNle
   rw [hN]
   have HNN := Lib.hid hN
   clear hN
   by_cases hN0 : N = 0
   · subst hN0
     have heq : (((a + 0 : Nat) : Int) == (a : Int)) = true := by simp
     go_wp2_with fail
     go_roundw
     case rel => exact ⟨a + 1, k, A, out, by go_num, by rw [HM.out], HP.out.skip hl HNN.out⟩
     case measure => simp [intOf]; omega
   · obtain ⟨z, hz⟩ : ∃ z, a + N = z := ⟨_, rfl⟩
     have HZ := Lib.hid hz
     have hne : ((z : Int) == (a : Int)) = false := by simp; omega
     have hza : (a : Int) ≤ (z : Int) := by omega
     have hzd : (z : Int) ≤ (s.data.size : Int) := by omega
     have hz60 : z ≤ 60 := by omega
     rw [hz]
     obtain ⟨es, hes⟩ : ∃ es, out.map pcRow = es := ⟨_, rfl⟩
     have HES : Hid (es.length = m) := Lib.hid (by rw [← hes, List.length_map]; exact HM.out)
     have HEQ := Lib.hid hes
     have HLS : Hid (Lst wc 98 2 (.slice A m k) es) := Lib.hid (by have := HP.out.ls; rw [hes, HM.out] at this; exact this)
     have HNW : Hid (∀ q, q ∈ blocks (.slice A m k) → w.heap.size ≤ q) := Lib.hid (fun q hq => HP.out.nw q (blocks_any A _ _ _ _ ▸ hq))
     have HS := Lib.hid HP.out.since
     clear hz hes hNle
     go_wp2_with (at_builtin; refine wpList_push rfl _ _ 95 rfl 98 2 24 Tryz.elPc (.slice A m k) es rfl (HLS.out.alloc _) wc.heap.size 1 [.int .i64 a, .string (s.data.extract a z)] rfl rfl (pcRow_one ⟨a, s.data.extract a z⟩).2 (BlockIs.fresh _ _ _) (by rw [HES.out]; omega) ?_; intro q cq w5 hl5 ho5 hq5 hlt5; rw [HES.out] at hl5; rw [HES.out])
     have HL5 := Lib.hid hl5
     have HS5 : Hid (Since w w5) := Lib.hid ((Since.alloc HS.out _).out' ho5 (fun q hq => HNW.out q hq))
     have HQ5 : Hid (q ∈ blocks (.slice A 0 0) ∨ wc.heap.size ≤ q) := Lib.hid (by
      rcases hq5 with h1 | h1
      · exact Or.inl (blocks_any A _ _ _ _ ▸ h1)
      · right; rw [h1]; simp)
     clear hl5 ho5 hq5
     go_wp2_with fail
     go_roundw
     case rel =>
      have h1 := HP.out.take (w' := w5) (q := q) (c := cq) hl (by rw [HM.out]; omega) HNN.out hN0 (by rw [HEQ.out, HM.out, HZ.out]; exact HL5.out) HQ5.out HS5.out
      rw [HZ.out] at h1
      exact ⟨z, cq, some ⟨q, 0, none⟩, _, rfl, by simp [HM.out], h1⟩
     case measure => have := HZ.out; simp [intOf]; omega
end Go.Proofs.YtmfbaijbigodkaaGreatDoor
