/- Contracts of ack.Bytes and ack.Print. Condition: the slice can be read; the table of kinds holds what the program's text lays. -/
import Derived.Test.YthnolkbolmbkdaaDoorAckLaw
import Derived.Test.YthnolkbolmbkdaaDoorVBldK
import Derived.Test.YthnolkbolmbkdaaDoorVGet
import Derived.Deep.RegionLaw
namespace Go.Proofs.YthnolkbolmbkdaaDoor
open Go.ChangeShapes Go.WideShapes Go.ChangeAt Go.RowKit
set_option linter.unusedVariables false

theorem strCells_bytes (l : List UInt8) : Lib.strCells ⟨l.toArray⟩ = Lib.byteCells l := rfl
theorem bsize (l : List UInt8) : (⟨l.toArray⟩ : ByteArray).size = l.length := by show l.toArray.size = _; simp
theorem bapp (a b : List UInt8) : (⟨a.toArray⟩ : ByteArray) ++ ⟨b.toArray⟩ = ⟨(a ++ b).toArray⟩ := by
  apply ByteArray.ext; simp

set_option maxHeartbeats 3200000 in
set_option maxRecDepth 100000 in
theorem ackbytes (A : Option Addr) (n cap : Nat) (L : List Rng) (w : World) (hn : L.length = n) (h : Rd w 2 (.slice A n cap) (L.map rngRow)) (hE : rngE L = 0) (hk : KTab w) :
    Calls Tryd.prog 70 #[.slice A n cap] w fun e w' => e = .returned (.string ⟨(ackB L).toArray⟩) ∧ Below w.heap.size w w' := by
  have H := Lib.hid h
  have HN := Lib.hid hn
  have HK := Lib.hid hk
  have hl12 : n ≤ 12 := by rw [← hn]; exact rngE_len hE
  have HO : Hid (∀ i, i < n → okN (rat L i) ∧ (rat L i).lo ≤ (rat L i).hi ∧ (0 < i → (rat L i).hi + 1 < (rat L (i-1)).lo)) := Lib.hid (fun i hi => rngOne_ok (rngE_each hE (by omega)))
  have HLN : Hid (∀ i, (ackUp L i).length ≤ 8 * i + 1) := Lib.hid (fun i => ackUp_len L (by omega) i)
  have HAB : Hid (ackB L = ackUp L n) := Lib.hid (by unfold ackB; rw [hn])
  clear h hn hE hk
  go_enter Tryd.func70, Tryd.ntmps70
  go_wp2_with fail
  go_loopw [8] (fun s8 wr => ∃ i : Nat, s8 = .int .i64 i ∧ i ≤ n ∧ Hid (Lib.IsBuilderF 157 5 w.heap.size w.heap.size (Lib.byteCells (ackUp L i)) wr) ∧ Since w wr) (fun s8 _ => n - (intOf s8).toNat)
  case atStart => exact ⟨0, rfl, Nat.zero_le _, Lib.hid (bfresh w), (Since.refl w).alloc _⟩
  case round =>
    obtain ⟨i, rfl, hi, HB, hs⟩ := hrel
    have hwr : w.heap.size < wr.heap.size := by
      rcases HB.out with h | h <;> exact h.lt
    by_cases hlt : i < n
    case neg =>
      obtain rfl : i = n := by omega
      have hf : decide ((i : Int) < (i : Int)) = false := by simp
      go_wp2_with fail
      refine (bstringK w.heap.size w.heap.size _ _ HB.out (by omega)).mono ?_
      rintro e w1 ⟨rfl, _, hb1, _⟩
      go_wp2_with fail
      go_ret
      exact ⟨by rw [HAB.out]; rfl, Below.trans hs hb1⟩
    have hlt' : (i : Int) < (n : Int) := by omega
    obtain ⟨b, off, rfl, hbl, hc⟩ := H.out.rng (i := i) (by rw [HN.out]; exact hlt)
    obtain ⟨c0, c1⟩ := hc wr hs i (by rw [HN.out]; exact hlt)
    have hpc : 0 < i → ∀ w', Since w w' → w'.cell? ⟨b, off + (i - 1) * 2, none⟩ = some (.int .i64 (rat L (i - 1)).lo) := fun h w' hw' => (hc w' hw' (i - 1) (by rw [HN.out]; omega)).1
    have hpk : 0 < i → okN (rat L (i - 1)) := fun h => (HO.out (i - 1) (by omega)).1
    obtain ⟨⟨⟨a1, a2⟩, a3, a4⟩, a5, a6⟩ := HO.out i hlt
    have HL := Lib.hid (HLN.out i)
    have HU1 : Hid (i = 0 → ackUp L (i + 1) = vbytes (rat L i).hi ++ vbytes ((n : Int) - 1) ++ vbytes ((rat L i).hi - (rat L i).lo)) := Lib.hid (fun h => by subst h; rw [ackUp_one, HN.out])
    have HU2 : Hid (0 < i → ackUp L (i + 1) = ackUp L i ++ vbytes ((rat L (i - 1)).lo - (rat L i).hi - 2) ++ vbytes ((rat L i).hi - (rat L i).lo)) := Lib.hid (fun h => ackUp_succ L h)
    have HU0 : Hid (i = 0 → ackUp L i = []) := Lib.hid (fun h => by subst h; rfl)
    generalize ackUp L i = U at *
    generalize (rat L i).lo = lo at *
    generalize (rat L i).hi = hi2 at *
    have lb : b < wr.heap.size := Nat.lt_of_lt_of_le hbl hs.le
    have HB1 := Lib.hid (builderF_later HB.out (((Since.refl wr).alloc (.cells #[.int .i64 lo, .int .i64 hi2] 69)) : Below wr.heap.size wr _))
    have hq : BlockIs (wr.alloc (.cells #[.int .i64 lo, .int .i64 hi2] 69)) wr.heap.size 69 #[.int .i64 lo, .int .i64 hi2] := BlockIs.fresh _ _ _
    have HQ := Lib.hid hq
    have hsa : Since w (wr.alloc (.cells #[.int .i64 lo, .int .i64 hi2] 69)) := hs.alloc _
    have HUL : Hid (U.length ≤ 100) := Lib.hid (by have := HL.out; omega)
    clear hc HB hq
    by_cases hi0 : i = 0
    · subst hi0
      obtain rfl : U = [] := HU0.out rfl
      have HU := Lib.hid (HU1.out rfl)
      have c0' : wr.cell? ⟨b, off, none⟩ = some (.int .i64 lo) := by simpa using c0
      have c1' : wr.cell? ⟨b, off + 1, none⟩ = some (.int .i64 hi2) := by simpa using c1
      clear hpc hpk c0 c1
      go_wp2_with fail
      refine (bytes_any hi2 a3 a4 _ (HK.out.later hsa)).mono ?_
      rintro e w1 ⟨rfl, hb1⟩
      go_wp2_with fail
      refine (bytes_any ((n : Int) - 1) (by omega) (by omega) _ (HK.out.later (hsa.later hb1))).mono ?_
      rintro e w2 ⟨rfl, hb2⟩
      have hb12 := below_steps hb1 hb2 hb1.size
      have HQ2 := Lib.hid (HQ.out.later hb12)
      have HB2 := Lib.hid (builderF_later HB1.out hb12)
      have hs2 := hsa.later hb12
      have h4 := vbytes_len4 hi2
      have h5 := vbytes_len4 ((n : Int) - 1)
      have hov : (vbytes hi2).length + (vbytes ((n : Int) - 1)).length ≤ 9223372036854775807 := by omega
      clear hb1 hb2 hb12 hsa
      go_wp2_with fail
      rw [bapp]
      refine (bwriteK w.heap.size w.heap.size _ _ _ HB2.out (by rw [Lib.byteCells_length, bsize]; simp; omega) hs2.le).mono ?_
      rintro e w3 ⟨rfl, hB3, hb3, ho3⟩
      have hq3 := HQ2.out.others ho3 (by omega) (by decide)
      have hs3 : Since w w3 := Below.trans hs2 hb3
      have d0 : w3.cell? ⟨wr.heap.size, 0, none⟩ = some (.int .i64 lo) := hq3.cell 0
      have d1 : w3.cell? ⟨wr.heap.size, 1, none⟩ = some (.int .i64 hi2) := hq3.cell 1
      have l3 := hq3.lt
      have HB3 := Lib.hid hB3
      clear hB3 hb3 ho3 hq3 hs2
      go_wp2_with fail
      refine (bytes_any (hi2 - lo) (by omega) (by omega) _ (HK.out.later hs3)).mono ?_
      rintro e w4 ⟨rfl, hb4⟩
      have HB4 := Lib.hid (builderF_later (Or.inr HB3.out) hb4)
      have hs4 := hs3.later hb4
      have h6 := vbytes_len4 (hi2 - lo)
      have HSZ : Hid ((Lib.byteCells [] ++ Lib.strCells ⟨(vbytes hi2 ++ vbytes ((n : Int) - 1)).toArray⟩).length + (⟨(vbytes (hi2 - lo)).toArray⟩ : ByteArray).size ≤ 140737488355328) := Lib.hid (by rw [strCells_bytes, List.length_append, Lib.byteCells_length, Lib.byteCells_length, bsize]; simp; omega)
      have HE : Hid (Lib.byteCells [] ++ Lib.strCells ⟨(vbytes hi2 ++ vbytes ((n : Int) - 1)).toArray⟩ ++ Lib.strCells ⟨(vbytes (hi2 - lo)).toArray⟩ = Lib.byteCells (ackUp L (0 + 1))) := Lib.hid (by rw [strCells_bytes, strCells_bytes, ← Lib.byteCells_append, ← Lib.byteCells_append, HU.out]; rfl)
      clear hb4 h6 d0 d1 hs3
      go_wp2_with fail
      refine (bwriteK w.heap.size w.heap.size _ _ _ HB4.out HSZ.out hs4.le).mono ?_
      rintro e w5 ⟨rfl, hB5, hb5, _⟩
      rw [HE.out] at hB5
      have HB5 := Lib.hid hB5
      have hs5 : Since w w5 := Below.trans hs4 hb5
      clear hB5 hb5
      go_wp2_with fail
      go_roundw
      case rel => exact ⟨0 + 1, by go_num, by omega, Lib.hid (Or.inr HB5.out), hs5⟩
      case measure => simp [intOf]; omega
    · have hip : 0 < i := by omega
      have hi0' : ((i : Int) == 0) = false := by simp; omega
      have hi1 : (i : Int) - 1 = ((i - 1 : Nat) : Int) := by omega
      have hi2' : ((i - 1 : Nat) : Int) < (n : Int) := by omega
      obtain ⟨⟨p1, p2⟩, p3, p4⟩ := hpk hip
      have HU := Lib.hid (HU2.out hip)
      have hpc' := hpc hip
      have hgp := a6 hip
      generalize (rat L (i - 1)).lo = plo at *
      generalize (rat L (i - 1)).hi = phi at *
      have cp := hpc' wr hs
      obtain ⟨X, hX⟩ : ∃ X, vbytes (plo - hi2 - 2) = X := ⟨_, rfl⟩
      have HXL : Hid (X.length ≤ 4) := Lib.hid (by rw [← hX]; exact (vbytes_len4 _).2)
      have HX := Lib.hid hX
      rw [hX] at HU
      clear hpc hpk a6 hpc' hX hi0
      trace "B"; go_wp2_with fail
      have hw0 : IntKind.i64.wrap ((i - 1 : Nat) : Int) = ((i - 1 : Nat) : Int) := by simp [IntKind.wrap, IntKind.bits, IntKind.signed]; omega
      have hw1 : IntKind.i64.wrap (plo - hi2) = plo - hi2 := by simp [IntKind.wrap, IntKind.bits, IntKind.signed]; omega
      have hw2 : IntKind.i64.wrap (plo - hi2 - 2) = plo - hi2 - 2 := by simp [IntKind.wrap, IntKind.bits, IntKind.signed]; omega
      have hg0 : 0 ≤ plo - hi2 - 2 := by omega
      have hg1 : plo - hi2 - 2 ≤ 1073741823 := by omega
      trace "C"; go_region_law (first | (go_simp; go_at_call 73; refine (bytes_any (plo - hi2 - 2) hg0 hg1 _ (HK.out.later (by first | exact hsa | exact hsa.drew))).mono ?_; rintro e w1 ⟨rfl, hb1⟩; rw [HX.out]; have HS1 := Lib.hid (show Since (wr.alloc (.cells #[.int .i64 lo, .int .i64 hi2] 69)) w1 from (by refine Since.out ?_; repeat (first | with_reducible assumption | with_reducible exact Since.refl _ | with_reducible refine Since.later ?_ (by with_reducible assumption) | with_reducible refine Since.only ?_ (by with_reducible assumption) (by first | assumption | omega | (simp; done) | (simp; omega)) | with_reducible refine Since.alloc ?_ _ | with_reducible refine Since.drewN ?_ _ | with_reducible refine Since.drew ?_ | with_reducible refine Since.set ?_ (by first | assumption | omega | (simp; done) | (simp; omega)) _))); clear hb1) | (go_simp; go_at_call 98; refine (bwriteK w.heap.size w.heap.size _ _ _ (builderF_later HB1.out HS1.out) (by rw [Lib.byteCells_length, bsize]; have := HXL.out; have := HUL.out; omega) (hsa.later HS1.out).le).mono ?_; rintro e w3 ⟨rfl, hB3, hb3, ho3⟩; have HB3 := Lib.hid hB3; have HS3 := Lib.hid (show Since w w3 from Below.trans (hsa.later HS1.out) hb3); have HQ3 := Lib.hid ((HQ.out.later HS1.out).others ho3 (by omega) (by decide)); clear hB3 hb3 ho3))
      all_goals
        have hs3 := HS3.out
        have d0 : w3.cell? ⟨wr.heap.size, 0, none⟩ = some (.int .i64 lo) := HQ3.out.cell 0
        have d1 : w3.cell? ⟨wr.heap.size, 1, none⟩ = some (.int .i64 hi2) := HQ3.out.cell 1
        have l3 := HQ3.out.lt
        clear hw0 hw1 hw2
        go_wp2_with fail
        refine (bytes_any (hi2 - lo) (by omega) (by omega) _ (HK.out.later hs3)).mono ?_
        rintro e w4 ⟨rfl, hb4⟩
        have HB4 := Lib.hid (builderF_later (Or.inr HB3.out) hb4)
        have hs4 := hs3.later hb4
        have h6 := vbytes_len4 (hi2 - lo)
        have HSZ : Hid ((Lib.byteCells U ++ Lib.strCells ⟨X.toArray⟩).length + (⟨(vbytes (hi2 - lo)).toArray⟩ : ByteArray).size ≤ 140737488355328) := Lib.hid (by rw [strCells_bytes, List.length_append, Lib.byteCells_length, Lib.byteCells_length, bsize]; have := HXL.out; have := HUL.out; omega)
        have HE : Hid (Lib.byteCells U ++ Lib.strCells ⟨X.toArray⟩ ++ Lib.strCells ⟨(vbytes (hi2 - lo)).toArray⟩ = Lib.byteCells (ackUp L (i + 1))) := Lib.hid (by rw [strCells_bytes, strCells_bytes, ← Lib.byteCells_append, ← Lib.byteCells_append, HU.out])
        clear hb4 h6 d0 d1 hs3
        go_wp2_with fail
        refine (bwriteK w.heap.size w.heap.size _ _ _ HB4.out HSZ.out hs4.le).mono ?_
        rintro e w5 ⟨rfl, hB5, hb5, _⟩
        rw [HE.out] at hB5
        have HB5 := Lib.hid hB5
        have hs5 : Since w w5 := Below.trans hs4 hb5
        clear hB5 hb5
        go_wp2_with fail
        go_roundw
        case rel => exact ⟨i + 1, by go_num, by omega, Lib.hid (Or.inr HB5.out), hs5⟩
        case measure => simp [intOf]; omega

/-- what is wrong with ranges that are to be told -/
def ackE (L : List Rng) : Int := if rngE L = 0 then (if L.length = 0 then 5 else 0) else rngE L
def ackV (L : List Rng) : List UInt8 := if ackE L = 0 then ackB L else []
theorem ackE_bad {L : List Rng} (h : rngE L ≠ 0) : ackE L = rngE L ∧ ackV L = [] := by
  have e : ackE L = rngE L := by unfold ackE; rw [if_neg h]
  exact ⟨e, by unfold ackV; rw [e, if_neg h]⟩
theorem ackE_none {L : List Rng} (h : rngE L = 0) (h0 : L.length = 0) : ackE L = 5 ∧ ackV L = [] := by
  have e : ackE L = 5 := by unfold ackE; rw [if_pos h, if_pos h0]
  exact ⟨e, by unfold ackV; rw [e]; rfl⟩
theorem ackE_ok {L : List Rng} (h : rngE L = 0) (h0 : L.length ≠ 0) : ackE L = 0 ∧ ackV L = ackB L := by
  have e : ackE L = 0 := by unfold ackE; rw [if_pos h, if_neg h0]
  exact ⟨e, by unfold ackV; rw [if_pos e]⟩
set_option maxHeartbeats 1600000 in
theorem ackprint (A : Option Addr) (n cap : Nat) (L : List Rng) (w : World) (hn : L.length = n) (hb : ∀ r ∈ L, okI r.lo ∧ okI r.hi) (h : Rd w 2 (.slice A n cap) (L.map rngRow)) (hk : KTab w) :
    Calls Tryd.prog 31 #[.slice A n cap] w fun e w' => e = .returned (.tuple #[.string ⟨(ackV L).toArray⟩, errV (ackE L)]) ∧ Below w.heap.size w w' := by
  have H := Lib.hid h
  have HN := Lib.hid hn
  have HK := Lib.hid hk
  have HB := Lib.hid hb
  clear h hn hk hb
  by_cases hE : rngE L = 0
  case neg =>
    obtain ⟨e1, e2⟩ := ackE_bad hE
    rw [e1, e2]
    have HE := Lib.hid hE
    clear e1 e2 hE
    go_enter Tryd.func31, Tryd.ntmps31
    go_wp2_with fail
    refine (rcheck A n cap L _ HN.out HB.out H.out).mono ?_
    rintro e w1 ⟨rfl, hb1⟩
    rw [errV_pos HE.out]
    go_wp2_with fail
    go_ret2
    exact ⟨by rw [errV_pos HE.out]; rfl, hb1⟩
  by_cases h0 : n = 0
  · subst h0
    obtain ⟨e1, e2⟩ := ackE_none hE HN.out
    rw [e1, e2]
    have HE := Lib.hid hE
    clear e1 e2 hE
    go_enter Tryd.func31, Tryd.ntmps31
    go_wp2_with fail
    refine (rcheck A 0 cap L _ HN.out HB.out H.out).mono ?_
    rintro e w1 ⟨rfl, hb1⟩
    rw [HE.out, errV_zero]
    go_wp2_with fail
    go_ret2
    exact ⟨rfl, hb1⟩
  · obtain ⟨e1, e2⟩ := ackE_ok hE (by rw [HN.out]; exact h0)
    rw [e1, e2]
    have HE := Lib.hid hE
    have h0' : ((n : Int) == 0) = false := by simp; omega
    clear e1 e2 hE
    go_enter Tryd.func31, Tryd.ntmps31
    go_wp2_with fail
    refine (rcheck A n cap L _ HN.out HB.out H.out).mono ?_
    rintro e w1 ⟨rfl, hb1⟩
    rw [HE.out, errV_zero]
    go_wp2_with fail
    refine (ackbytes A n cap L _ HN.out (H.out.later hb1) HE.out (HK.out.later hb1)).mono ?_
    rintro e w2 ⟨rfl, hb2⟩
    go_wp2_with fail
    go_ret2
    exact ⟨rfl, below_steps hb1 hb2 hb1.size⟩
end Go.Proofs.YthnolkbolmbkdaaDoor
