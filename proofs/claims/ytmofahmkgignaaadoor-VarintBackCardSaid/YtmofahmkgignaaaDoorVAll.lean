/- Contract of varint.All: the bytes of any numbers, one behind the other. Condition: the table of kinds holds what the program's text lays. -/
import Derived.Test.YtmofahmkgignaaaDoorVGet
import Derived.Test.YtmofahmkgignaaaDoorVBuild
namespace Go.Proofs.YtmofahmkgignaaaDoor
open Go.ChangeShapes Go.WideShapes Go.ChangeAt Go.RowKit
set_option linter.unusedVariables false

/-- a builder of the call's own stays as it is while only new blocks are made -/
theorem builderAt_later {T e : TypeId} {B b : Nat} {p : Value} {bs : List Value} {w w1 : World} (h : Lib.BuilderAt T e B b p bs w) (hb : Below w.heap.size w w1) : Lib.BuilderAt T e B b p bs w1 := by
  have hlt := h.lt
  obtain ⟨h1, v, h2, h3, h4⟩ := h
  refine ⟨h1, v, (hb.block b hlt).trans h2, ?_, h4⟩
  exact h3.kept (row := none) ⟨hb.os, hb.tape, hb.output, hb.size, fun i hi _ => hb.block i hi⟩ (by cases hv : v.ownBlock <;> simp)
theorem builder_later {T e : TypeId} {B b : Nat} {bs : List Value} {w w1 : World} (h : Lib.IsBuilder T e B b bs w) (hb : Below w.heap.size w w1) : Lib.IsBuilder T e B b bs w1 :=
  h.imp (fun h => builderAt_later h hb) (fun h => builderAt_later h hb)

/-- the numbers' bytes, one behind the other -/
def allL (zs : List Int) : List UInt8 := zs.flatMap vbytes
theorem allL_snoc (zs : List Int) (z : Int) : allL (zs ++ [z]) = allL zs ++ vbytes z := by simp [allL]
theorem vbytes_four (n : Int) : (vbytes n).length ≤ 4 := by
  have := vbytes_length n
  unfold longN at this
  split at this
  · omega
  · split at this <;> omega
theorem allL_short (zs : List Int) : (allL zs).length ≤ 4 * zs.length := by
  induction zs with
  | nil => simp [allL]
  | cons z r ih =>
    have e : allL (z :: r) = vbytes z ++ allL r := by simp [allL]
    have := vbytes_four z
    rw [e, List.length_append, List.length_cons]
    omega
def allE (zs : List Int) : Int := if 40 < zs.length then 4 else if ∀ z ∈ zs, MayBe z then 0 else 1
def allV (zs : List Int) : List UInt8 := if allE zs = 0 then allL zs else []
theorem allE_long {zs : List Int} (h : 40 < zs.length) : allE zs = 4 ∧ allV zs = [] := by
  have e : allE zs = 4 := by unfold allE; rw [if_pos h]
  exact ⟨e, by unfold allV; rw [e]; rfl⟩
theorem allE_ok {zs : List Int} (h : ¬ 40 < zs.length) (h2 : ∀ z ∈ zs, MayBe z) : allE zs = 0 ∧ allV zs = allL zs := by
  have e : allE zs = 0 := by unfold allE; rw [if_neg h, if_pos h2]
  exact ⟨e, by unfold allV; rw [if_pos e]⟩
theorem allE_bad {zs : List Int} (h : ¬ 40 < zs.length) (h2 : ¬ ∀ z ∈ zs, MayBe z) : allE zs = 1 ∧ allV zs = [] := by
  have e : allE zs = 1 := by unfold allE; rw [if_neg h, if_neg h2]
  exact ⟨e, by unfold allV; rw [e]; rfl⟩
theorem ith_mem {zs : List Int} {k : Nat} (h : k < zs.length) : ith zs k ∈ zs := by
  unfold ith
  simp [List.getD, h]
theorem take_ith {zs : List Int} {k : Nat} (h : k < zs.length) : zs.take (k + 1) = zs.take k ++ [ith zs k] := by
  rw [List.take_succ_eq_append_getElem h]
  unfold ith
  simp [List.getD, h]

set_option maxRecDepth 100000 in
set_option maxHeartbeats 1600000 in
theorem vall_any (v : Value) (zs : List Int) (w : World) (hv : IntsIn w v zs) (hk : KTab w) :
    Calls Tryd.prog 27 #[v] w fun e w' => e = .returned (.tuple #[.string ⟨(allV zs).toArray⟩, errV (allE zs)]) ∧ Below w.heap.size w w' := by
  obtain ⟨bd0, A, cap, rfl, hle0, hm0, hc⟩ := hv
  have HK := Lib.hid hk
  have HC := Lib.hid hc
  unfold maxLen at hm0
  clear hc hk bd0
  by_cases h40 : 40 < zs.length
  · obtain ⟨e1, e2⟩ := allE_long h40
    have h41 : (40 : Int) < (zs.length : Int) := by omega
    rw [e1, e2]
    clear e1 e2
    go_enter Tryd.func27, Tryd.ntmps27
    go_wp2_with fail
    go_ret2
    exact ⟨rfl, Below.refl _ _⟩
  have h41 : decide ((40 : Int) < (zs.length : Int)) = false := by simp; omega
  have hz : zs.length ≤ 40 := by omega
  have H40 := Lib.hid h40
  clear h40
  go_enter Tryd.func27, Tryd.ntmps27
  go_wp2_with fail
  go_loopw [6, 13] (fun s6 s13 wr => ∃ k : Nat, k ≤ zs.length ∧ s13 = .int .i64 k ∧ (∀ z ∈ zs.take k, MayBe z) ∧ Lib.IsBuilder 76 5 w.heap.size w.heap.size (Lib.byteCells (allL (zs.take k))) wr ∧ Below w.heap.size w wr) (fun _ s13 _ => zs.length - (intOf s13).toNat)
  case atStart => exact ⟨0, Nat.zero_le _, rfl, by simp, Lib.fresh_isBuilder _ _ w, (Below.refl _ _).alloc (Nat.le_refl _) _⟩
  case round =>
    obtain ⟨k, hkz, rfl, hmay, hB, hb⟩ := hrel
    have HM := Lib.hid hmay
    clear hmay
    by_cases hlt : k < zs.length
    · obtain ⟨b, off, rfl, hbl, hcc⟩ := HC.out (by rintro rfl; simp at hlt)
      have cz : wr.cell? ⟨b, off + k, none⟩ = some (.int .i64 (ith zs k)) := (hb.cell (p := ⟨b, off + k, none⟩) hbl).trans (hcc k hlt)
      have hmem := ith_mem hlt
      have HT := Lib.hid (take_ith hlt)
      have hlt2 : (k : Int) < (zs.length : Int) := by omega
      clear hcc
      obtain ⟨z, hzz⟩ : ∃ z, ith zs k = z := ⟨_, rfl⟩
      rw [hzz] at cz hmem
      have HZ := Lib.hid hzz
      clear hzz
      by_cases hm : MayBe z
      · obtain ⟨z0, z1⟩ := hm
        have hsz := allL_short (zs.take k)
        have htl : (zs.take k).length ≤ 40 := by rw [List.length_take]; omega
        have hv4 := vbytes_four z
        have HSZ : Hid ((Lib.byteCells (allL (zs.take k))).length + (ByteArray.mk (vbytes z).toArray).size ≤ 140737488355328) := Lib.hid (by
          rw [Lib.byteCells_length, show (ByteArray.mk (vbytes z).toArray).size = (vbytes z).length from rfl]; omega)
        have HB := Lib.hid hB
        clear hB hsz htl hv4
        go_wp2_with (first | (go_at_call 42; refine (may_yes z z0 z1 _).mono ?_; rintro e w' ⟨rfl, rfl⟩) | (go_at_call 48; refine (bytes_any z z0 z1 _ (HK.out.later hb)).mono ?_; rintro e w1 ⟨rfl, hb1⟩) | (go_at_call 49; refine (bwrite w.heap.size w.heap.size _ _ _ (builder_later HB.out hb1) HSZ.out (Nat.le_trans hb.size hb1.size)).mono ?_; rintro e w2 ⟨rfl, hB2, hb2⟩))
        go_roundw
        case rel =>
          refine ⟨k + 1, by omega, by go_num, ?_, ?_, (below_steps hb hb1 hb.size).trans hb2⟩
          · rw [HT.out, HZ.out]
            intro y hy
            rcases List.mem_append.1 hy with h | h
            · exact HM.out y h
            · rw [List.mem_singleton.1 h]; exact ⟨z0, z1⟩
          · rw [HT.out, HZ.out, allL_snoc, Lib.byteCells_append]
            exact Or.inr hB2
        case measure => simp [intOf]; omega
      · obtain ⟨e1, e2⟩ := allE_bad H40.out (fun h => hm (h z hmem))
        have E1 := Lib.hid e1
        have E2 := Lib.hid e2
        clear e1 e2 hB
        go_wp2_with (go_at_call 42; refine (may_no z hm _).mono ?_; rintro e w' ⟨rfl, rfl⟩)
        go_ret2
        exact ⟨by rw [E1.out, E2.out]; rfl, hb⟩
    · obtain rfl : k = zs.length := by omega
      obtain ⟨e1, e2⟩ := allE_ok H40.out (fun z hz2 => HM.out z (by rw [List.take_length]; exact hz2))
      have E1 := Lib.hid e1
      have E2 := Lib.hid e2
      rw [List.take_length] at hB
      have HB := Lib.hid hB
      clear e1 e2 hB
      go_wp2_with (go_at_call 50; refine (bstring w.heap.size w.heap.size _ _ HB.out hb.size).mono ?_; rintro e w2 ⟨rfl, hb2⟩)
      go_ret2
      exact ⟨by rw [E1.out, E2.out]; rfl, hb.trans hb2⟩
end Go.Proofs.YtmofahmkgignaaaDoor
