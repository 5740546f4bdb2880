/- Plain words on numbers as long as needed: their bytes, and the number that bytes begin with. No program here. -/
import Derived.Test.YthnolkbolmbkdaaDoorRules
namespace Go.Proofs.YthnolkbolmbkdaaDoor
open Go.ChangeShapes Go.WideShapes Go.ChangeAt Go.RowKit
set_option linter.unusedVariables false

/-- a byte of a number -/
def byteOf (n : Int) : UInt8 := UInt8.ofNat n.toNat
theorem byteOf_toNat {n : Int} (h0 : 0 ≤ n) (h1 : n < 256) : ((byteOf n).toNat : Int) = n := by
  unfold byteOf
  rw [UInt8.toNat_ofNat']
  omega
/-- which kind -/
def kindN (n : Int) : Int := if n < 64 then 0 else if n < 16384 then 1 else 2
/-- how many bytes -/
def longN (n : Int) : Int := if n < 64 then 1 else if n < 16384 then 2 else 4
/-- the bytes of a number that may be -/
def vbytes (n : Int) : List UInt8 :=
  if n < 64 then [byteOf n] else if n < 16384 then [byteOf (64 + n / 256), byteOf (n % 256)]
  else [byteOf (128 + n / 16777216), byteOf (n / 65536 % 256), byteOf (n / 256 % 256), byteOf (n % 256)]
theorem vbytes_length (n : Int) : ((vbytes n).length : Int) = longN n := by
  unfold vbytes longN
  split
  · rfl
  · split <;> rfl
/-- the i-th byte, 0 beyond the end -/
def bat (l : List UInt8) (i : Nat) : Int := ((l.getD i 0).toNat : Int)
theorem bat_bounds (l : List UInt8) (i : Nat) : 0 ≤ bat l i ∧ bat l i < 256 := by
  unfold bat
  have := (l.getD i 0).toNat_lt
  omega
/-- how many bytes the number has that these begin with -/
def getC (l : List UInt8) : Nat := if bat l 0 < 64 then 1 else if bat l 0 < 128 then 2 else 4
/-- that number -/
def getN (l : List UInt8) : Int :=
  if bat l 0 < 64 then bat l 0 else if bat l 0 < 128 then (bat l 0 - 64) * 256 + bat l 1 else (((bat l 0 - 128) * 256 + bat l 1) * 256 + bat l 2) * 256 + bat l 3
/-- is there one? -/
def getOk (l : List UInt8) : Prop := l ≠ [] ∧ bat l 0 < 192 ∧ getC l ≤ l.length ∧ longN (getN l) = getC l
instance (l : List UInt8) : Decidable (getOk l) := by unfold getOk; infer_instance
def getE (l : List UInt8) : Int := if getOk l then 0 else 2
def getV (l : List UInt8) : Int := if getOk l then getN l else 0
def getK (l : List UInt8) : Int := if getOk l then getC l else 0
theorem getN_bounds {l : List UInt8} (h : bat l 0 < 192) : 0 ≤ getN l ∧ getN l ≤ 1073741823 := by
  have h0 := bat_bounds l 0
  have h1 := bat_bounds l 1
  have h2 := bat_bounds l 2
  have h3 := bat_bounds l 3
  unfold getN
  split
  · omega
  · split <;> omega

theorem bat_zero (x : UInt8) (l : List UInt8) : bat (x :: l) 0 = x.toNat := rfl
theorem bat_succ (x : UInt8) (l : List UInt8) (i : Nat) : bat (x :: l) (i + 1) = bat l i := rfl

/-- a number comes back, whatever is behind it -/
theorem get_back {n : Int} (h0 : 0 ≤ n) (h1 : n ≤ 1073741823) (r : List UInt8) : getOk (vbytes n ++ r) ∧ getN (vbytes n ++ r) = n ∧ (getC (vbytes n ++ r) : Int) = longN n := by
  by_cases a : n < 64
  · have e : vbytes n = [byteOf n] := by unfold vbytes; rw [if_pos a]
    have b0 : bat (vbytes n ++ r) 0 = n := by rw [e]; exact byteOf_toNat h0 (by omega)
    have c : getC (vbytes n ++ r) = 1 := by unfold getC; rw [b0, if_pos a]
    have g : getN (vbytes n ++ r) = n := by unfold getN; rw [b0, if_pos a]
    have l : longN n = 1 := by unfold longN; rw [if_pos a]
    refine ⟨⟨by rw [e]; simp, by omega, by rw [c, e]; simp, by rw [g, l, c]; rfl⟩, g, by rw [c, l]; rfl⟩
  · by_cases b : n < 16384
    · have e : vbytes n = [byteOf (64 + n / 256), byteOf (n % 256)] := by unfold vbytes; rw [if_neg a, if_pos b]
      have b0 : bat (vbytes n ++ r) 0 = 64 + n / 256 := by rw [e]; exact byteOf_toNat (by omega) (by omega)
      have b1 : bat (vbytes n ++ r) 1 = n % 256 := by rw [e]; exact byteOf_toNat (by omega) (by omega)
      have c : getC (vbytes n ++ r) = 2 := by unfold getC; rw [b0, if_neg (by omega), if_pos (by omega)]
      have g : getN (vbytes n ++ r) = n := by unfold getN; rw [b0, b1, if_neg (by omega), if_pos (by omega)]; omega
      have l : longN n = 2 := by unfold longN; rw [if_neg a, if_pos b]
      refine ⟨⟨by rw [e]; simp, by omega, by rw [c, e]; simp, by rw [g, l, c]; rfl⟩, g, by rw [c, l]; rfl⟩
    · have e : vbytes n = [byteOf (128 + n / 16777216), byteOf (n / 65536 % 256), byteOf (n / 256 % 256), byteOf (n % 256)] := by unfold vbytes; rw [if_neg a, if_neg b]
      have b0 : bat (vbytes n ++ r) 0 = 128 + n / 16777216 := by rw [e]; exact byteOf_toNat (by omega) (by omega)
      have b1 : bat (vbytes n ++ r) 1 = n / 65536 % 256 := by rw [e]; exact byteOf_toNat (by omega) (by omega)
      have b2 : bat (vbytes n ++ r) 2 = n / 256 % 256 := by rw [e]; exact byteOf_toNat (by omega) (by omega)
      have b3 : bat (vbytes n ++ r) 3 = n % 256 := by rw [e]; exact byteOf_toNat (by omega) (by omega)
      have c : getC (vbytes n ++ r) = 4 := by unfold getC; rw [b0, if_neg (by omega), if_neg (by omega)]
      have g : getN (vbytes n ++ r) = n := by unfold getN; rw [b0, b1, b2, b3, if_neg (by omega), if_neg (by omega)]; omega
      have l : longN n = 4 := by unfold longN; rw [if_neg a, if_neg b]
      refine ⟨⟨by rw [e]; simp, by omega, by rw [c, e]; simp, by rw [g, l, c]; rfl⟩, g, by rw [c, l]; rfl⟩

theorem take1 : ∀ (l : List UInt8) (h : 0 < l.length), [l[0]] = l.take 1
  | _ :: _, _ => rfl
theorem take2 : ∀ (l : List UInt8) (h : 1 < l.length), [l[0], l[1]] = l.take 2
  | _ :: _ :: _, _ => rfl
theorem take4 : ∀ (l : List UInt8) (h : 3 < l.length), [l[0], l[1], l[2], l[3]] = l.take 4
  | _ :: _ :: _ :: _ :: _, _ => rfl
theorem bat_byte {l : List UInt8} {i : Nat} (h : i < l.length) : byteOf (bat l i) = l[i] := by
  unfold byteOf bat
  simp [List.getD, h]
/-- what is read is just the bytes it was read of -/
theorem get_bytes {l : List UInt8} (h : getOk l) : vbytes (getN l) = l.take (getC l) := by
  obtain ⟨hne, h0, hl, hk⟩ := h
  have q0 := bat_bounds l 0
  have q1 := bat_bounds l 1
  have q2 := bat_bounds l 2
  have q3 := bat_bounds l 3
  by_cases a : bat l 0 < 64
  · have c : getC l = 1 := by unfold getC; rw [if_pos a]
    have g : getN l = bat l 0 := by unfold getN; rw [if_pos a]
    rw [g, c]
    rw [c] at hl
    unfold vbytes
    rw [if_pos a, bat_byte (by omega)]
    exact take1 l (by omega)
  · by_cases b : bat l 0 < 128
    · have c : getC l = 2 := by unfold getC; rw [if_neg a, if_pos b]
      have g : getN l = (bat l 0 - 64) * 256 + bat l 1 := by unfold getN; rw [if_neg a, if_pos b]
      rw [c, g] at hk
      have k1 : ¬ (bat l 0 - 64) * 256 + bat l 1 < 64 := fun hh => by unfold longN at hk; rw [if_pos hh] at hk; cases hk
      rw [g, c]
      rw [c] at hl
      unfold vbytes
      rw [if_neg k1, if_pos (by omega), show 64 + ((bat l 0 - 64) * 256 + bat l 1) / 256 = bat l 0 from by omega, show ((bat l 0 - 64) * 256 + bat l 1) % 256 = bat l 1 from by omega, bat_byte (by omega), bat_byte (by omega)]
      exact take2 l (by omega)
    · have c : getC l = 4 := by unfold getC; rw [if_neg a, if_neg b]
      have g : getN l = (((bat l 0 - 128) * 256 + bat l 1) * 256 + bat l 2) * 256 + bat l 3 := by unfold getN; rw [if_neg a, if_neg b]
      rw [c, g] at hk
      have k1 : ¬ (((bat l 0 - 128) * 256 + bat l 1) * 256 + bat l 2) * 256 + bat l 3 < 64 := fun hh => by unfold longN at hk; rw [if_pos hh] at hk; cases hk
      have k2 : ¬ (((bat l 0 - 128) * 256 + bat l 1) * 256 + bat l 2) * 256 + bat l 3 < 16384 := fun hh => by unfold longN at hk; rw [if_neg k1, if_pos hh] at hk; cases hk
      rw [g, c]
      rw [c] at hl
      unfold vbytes
      rw [if_neg k1, if_neg k2,
        show 128 + ((((bat l 0 - 128) * 256 + bat l 1) * 256 + bat l 2) * 256 + bat l 3) / 16777216 = bat l 0 from by omega,
        show ((((bat l 0 - 128) * 256 + bat l 1) * 256 + bat l 2) * 256 + bat l 3) / 65536 % 256 = bat l 1 from by omega,
        show ((((bat l 0 - 128) * 256 + bat l 1) * 256 + bat l 2) * 256 + bat l 3) / 256 % 256 = bat l 2 from by omega,
        show ((((bat l 0 - 128) * 256 + bat l 1) * 256 + bat l 2) * 256 + bat l 3) % 256 = bat l 3 from by omega,
        bat_byte (by omega), bat_byte (by omega), bat_byte (by omega), bat_byte (by omega)]
      exact take4 l (by omega)
end Go.Proofs.YthnolkbolmbkdaaDoor
