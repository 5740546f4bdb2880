/- Contracts of frame.Acked and frame.numbers. Condition: the string's length is an int; the tables hold what the program's text lays. -/
import Derived.Test.YthnolkbolmbkdaaDoorFrm
import Derived.Test.YthnolkbolmbkdaaDoorIntRow
import Derived.Test.YthnolkbolmbkdaaDoorAckR
namespace Go.Proofs.YthnolkbolmbkdaaDoor
open Go.ChangeShapes Go.WideShapes Go.ChangeAt Go.RowKit
set_option linter.unusedVariables false

theorem take_unpairs {L : List Rng} {i : Nat} (h : i < L.length) : unpairs (L.take (i + 1)) = unpairs (L.take i) ++ [(rat L i).hi, (rat L i).lo] := by
  rw [take_rat h, unpairs_snoc]
/-- what frame.Acked keeps -/
structure AkSt (w wr : World) (L : List Rng) (i : Nat) (A : Option Addr) (c : Nat) : Prop where
  bl : BlockIs wr (w.heap.size + 1) 82 #[.int .i64 2, .slice A (2 * i) c, .string ⟨#[]⟩]
  br : BlockIs wr w.heap.size 82 #[.int .i64 0, .slice none 0 0, .string ⟨#[]⟩]
  ls : Lst wr 3 1 (.slice A (2 * i) c) ((unpairs (L.take i)).map intRow)
  new : ∀ q, q ∈ blocks (.slice A 0 0) → w.heap.size ≤ q
  since : Since w wr

theorem AkSt.after {w wr w9 : World} {L : List Rng} {i : Nat} {A : Option Addr} {c : Nat} (h : AkSt w wr L i A c) {o1 o2 : Obj} (ho : Out ((wr.alloc o1).alloc o2) w9 (blocks (.slice A (2 * i) c))) :
    Since w w9 ∧ BlockIs w9 (w.heap.size + 1) 82 #[.int .i64 2, .slice A (2 * i) c, .string ⟨#[]⟩] ∧ BlockIs w9 w.heap.size 82 #[.int .i64 0, .slice none 0 0, .string ⟨#[]⟩] := by
  have hl := (h.ls.alloc o1).alloc o2
  have h1 := (h.bl.alloc o1).alloc o2
  have h2 := (h.br.alloc o1).alloc o2
  refine ⟨((h.since.alloc o1).alloc o2).out' ho (fun k hk => h.new k (by rw [blocks_any A 0 0 (2 * i) c]; exact hk)), ho.block' h1 (hl.apart h1 (by decide)), ho.block' h2 (hl.apart h2 (by decide))⟩
set_option maxHeartbeats 1600000 in
set_option maxRecDepth 100000 in
theorem facked (A : Option Addr) (n cap : Nat) (L : List Rng) (w : World) (hn : L.length = n) (hm : n ≤ 100) (h : Rd w 2 (.slice A n cap) (L.map rngRow)) :
    Calls Tryd.prog 105 #[.slice A n cap] w fun e w' => ∃ A' c', e = .returned (.agg #[.int .i64 2, .slice A' (2 * n) c', .string ⟨#[]⟩]) ∧ Lst w' 3 1 (.slice A' (2 * n) c') ((unpairs L).map intRow) ∧ Below w.heap.size w w' ∧ (∀ q, q ∈ blocks (.slice A' 0 0) → w.heap.size ≤ q) := by
  have H := Lib.hid h
  have HN := Lib.hid hn
  have hst : AkSt w ((w.alloc (.cells #[.int .i64 0, .slice none 0 0, .string ⟨#[]⟩] 82)).alloc (.cells #[.int .i64 2, .slice none 0 0, .string ⟨#[]⟩] 82)) L 0 none 0 :=
    ⟨BlockIs.fresh_at (by simp), (BlockIs.fresh _ _ _).alloc _, Lst.nil _ _ _, by simp [Value.ownBlock], (by refine Since.out ?_; repeat (first | with_reducible assumption | with_reducible exact Since.refl _ | with_reducible refine Since.later ?_ (by with_reducible assumption) | with_reducible refine Since.only ?_ (by with_reducible assumption) (by first | assumption | omega | (simp; done) | (simp; omega)) | with_reducible refine Since.alloc ?_ _ | with_reducible refine Since.drewN ?_ _ | with_reducible refine Since.drew ?_ | with_reducible refine Since.set ?_ (by first | assumption | omega | (simp; done) | (simp; omega)) _))⟩
  have HST := Lib.hid hst
  clear h hn hst
  go_enter Tryd.func105, Tryd.ntmps105
  go_wp2_with fail
  go_loopw [9] (fun s9 wr => ∃ (i : Nat) (A' : Option Addr) (c' : Nat), s9 = .int .i64 i ∧ i ≤ n ∧ Hid (AkSt w wr L i A' c')) (fun s9 _ => n - (intOf s9).toNat)
  case atStart => exact ⟨0, none, 0, rfl, Nat.zero_le _, HST⟩
  case round =>
    obtain ⟨i, A', c', rfl, hi, HS⟩ := hrel
    have hs := HS.out.since
    have b0 : wr.cell? ⟨w.heap.size + 1, 0, none⟩ = some (.int .i64 2) := HS.out.bl.cell 0
    have b1 : wr.cell? ⟨w.heap.size + 1, 1, none⟩ = some (.slice A' (2 * i) c') := HS.out.bl.cell 1
    have b2 : wr.cell? ⟨w.heap.size + 1, 2, none⟩ = some (.string ⟨#[]⟩) := HS.out.bl.cell 2
    have lb := HS.out.bl.lt
    have fb := HS.out.bl.free
    by_cases hlt : i < n
    case neg =>
      obtain rfl : i = n := by omega
      have hf : decide ((i : Int) < (i : Int)) = false := by simp
      have r0 : wr.cell? ⟨w.heap.size, 0, none⟩ = some (.int .i64 0) := HS.out.br.cell 0
      have r1 : wr.cell? ⟨w.heap.size, 1, none⟩ = some (.slice none 0 0) := HS.out.br.cell 1
      have r2 : wr.cell? ⟨w.heap.size, 2, none⟩ = some (.string ⟨#[]⟩) := HS.out.br.cell 2
      have lr := HS.out.br.lt
      have fr := HS.out.br.free
      have hz : Hid (L.take i = L) := Lib.hid (by rw [List.take_of_length_le (by rw [HN.out]; exact Nat.le_refl _)])
      trace "A"; go_wp2_with fail
      have HB3 := Lib.hid (((HS.out.br.put 0 (.int .i64 2)).put 1 (.slice A' (2 * i) c')).put 2 (.string ⟨#[]⟩))
      have hs3 : Since w (((wr.setCell ⟨w.heap.size, 0, none⟩ (.int .i64 2)).setCell ⟨w.heap.size, 1, none⟩ (.slice A' (2 * i) c')).setCell ⟨w.heap.size, 2, none⟩ (.string ⟨#[]⟩)) := (by refine Since.out ?_; repeat (first | with_reducible assumption | with_reducible exact Since.refl _ | with_reducible refine Since.later ?_ (by with_reducible assumption) | with_reducible refine Since.only ?_ (by with_reducible assumption) (by first | assumption | omega | (simp; done) | (simp; omega)) | with_reducible refine Since.alloc ?_ _ | with_reducible refine Since.drewN ?_ _ | with_reducible refine Since.drew ?_ | with_reducible refine Since.set ?_ (by first | assumption | omega | (simp; done) | (simp; omega)) _))
      have ho3 : Out wr (((wr.setCell ⟨w.heap.size, 0, none⟩ (.int .i64 2)).setCell ⟨w.heap.size, 1, none⟩ (.slice A' (2 * i) c')).setCell ⟨w.heap.size, 2, none⟩ (.string ⟨#[]⟩)) [w.heap.size] := (((Out.refl _ _).put (p := ⟨w.heap.size, 0, none⟩) (Or.inl (by simp)) _).put (p := ⟨w.heap.size, 1, none⟩) (Or.inl (by simp)) _).put (p := ⟨w.heap.size, 2, none⟩) (Or.inl (by simp)) _
      generalize (((wr.setCell ⟨w.heap.size, 0, none⟩ (.int .i64 2)).setCell ⟨w.heap.size, 1, none⟩ (.slice A' (2 * i) c')).setCell ⟨w.heap.size, 2, none⟩ (.string ⟨#[]⟩)) = w3 at *
      have k0 : w3.cell? ⟨w.heap.size, 0, none⟩ = some (.int .i64 2) := HB3.out.cell 0
      have k1 : w3.cell? ⟨w.heap.size, 1, none⟩ = some (.slice A' (2 * i) c') := HB3.out.cell 1
      have k2 : w3.cell? ⟨w.heap.size, 2, none⟩ = some (.string ⟨#[]⟩) := HB3.out.cell 2
      refine bodyPost_ret (v := .agg #[.int .i64 2, .slice A' (2 * i) c', .string ⟨#[]⟩]) (by simp [results, Tryd.results105, go_sem, k0, k1, k2]) rfl ⟨A', c', rfl, ?_, hs3, HS.out.new⟩
      · have hl := HS.out.ls
        rw [hz.out] at hl
        exact hl.kept ho3 (fun k hk hk2 => HS.out.ls.apart HS.out.br (by decide) (by rw [List.mem_singleton.1 hk2] at hk; exact hk))
    have hlt' : (i : Int) < (n : Int) := by omega
    have hil : i < L.length := by rw [HN.out]; exact hlt
    obtain ⟨b, off, rfl, hbl, hc⟩ := H.out.rng (i := i) hil
    obtain ⟨c0, c1⟩ := hc wr hs i hil
    have lbb : b < wr.heap.size := Nat.lt_of_lt_of_le hbl hs.le
    have HT := Lib.hid (take_unpairs hil)
    have HUL : Hid (((unpairs (L.take i)).map intRow).length = 2 * i) := Lib.hid (by rw [List.length_map, unpairs_len, List.length_take]; omega)
    clear hc hil
    generalize (rat L i).lo = lo at *
    generalize (rat L i).hi = hi2 at *
    have HNEW : Hid (∀ j u, (flat [intRow hi2, intRow lo])[j]? = some u → ((wr.alloc (.cells #[.int .i64 lo, .int .i64 hi2] 69)).alloc (.cells #[.int .i64 hi2, .int .i64 lo] 3)).cell? ((⟨wr.heap.size + 1, 0, none⟩ : Addr).add j) = some u) := Lib.hid (fun j u hj => by
      rw [addr_at, (BlockIs.fresh_at (w := wr.alloc (.cells #[.int .i64 lo, .int .i64 hi2] 69)) (t := 3) (cs := #[.int .i64 hi2, .int .i64 lo]) (by simp)).cell]
      match j, hj with
      | 0, hj => exact hj
      | 1, hj => exact hj
      | _ + 2, hj => simp [intRow] at hj)
    trace "B"; go_wp2_with (at_builtin; (refine wpList_cat rfl _ _ 50 rfl 3 1 8 Tryd.elInt (.slice A' (2 * i) c') ((unpairs (L.take i)).map intRow) rfl ((HS.out.ls.alloc _).alloc _) ⟨wr.heap.size + 1, 0, none⟩ 2 2 [intRow hi2, intRow lo] rfl rfl (by intro e he; simp at he; rcases he with rfl | rfl <;> exact intRow_one _) HNEW.out (by rw [HUL.out]; simp; omega) ?_); intro A9 c9 w9 hl9 ho9 hb9; rw [HUL.out] at hl9 hb9; (try rw [HUL.out]); have HL9 := Lib.hid hl9; have HO9 := Lib.hid ho9; have HBB9 := Lib.hid hb9; obtain ⟨hs9, hB9, hR9⟩ := HS.out.after ho9; have f9 := hB9.free; have l9 := hB9.lt; have e91 : w9.cell? ⟨w.heap.size + 1, 1, none⟩ = some (.slice A' (2 * i) c') := hB9.cell 1; have HB9 := Lib.hid hB9; have HR9 := Lib.hid hR9; clear hl9 ho9 hb9 hB9 hR9)
    trace "C"; go_roundw
    case rel =>
      refine ⟨i + 1, A9, c9, by go_num, by omega, Lib.hid ⟨HB9.out.put 1 _, HR9.out.far (by simp) _, ?_, ?_, (by refine Since.out ?_; repeat (first | with_reducible assumption | with_reducible exact Since.refl _ | with_reducible refine Since.later ?_ (by with_reducible assumption) | with_reducible refine Since.only ?_ (by with_reducible assumption) (by first | assumption | omega | (simp; done) | (simp; omega)) | with_reducible refine Since.alloc ?_ _ | with_reducible refine Since.drewN ?_ _ | with_reducible refine Since.drew ?_ | with_reducible refine Since.set ?_ (by first | assumption | omega | (simp; done) | (simp; omega)) _))⟩⟩
      · rw [HT.out, List.map_append]
        exact HL9.out.kept ((Out.refl w9 [w.heap.size + 1]).put (p := ⟨w.heap.size + 1, 1, none⟩) (Or.inl (by simp)) _) (fun k hk hk2 => HL9.out.apart HB9.out (by decide) (by rw [List.mem_singleton.1 hk2] at hk; exact hk))
      · intro k hk
        rcases HBB9.out k (by rw [blocks_any A9 0 0 (2 * i + 2) c9] at hk; exact hk) with h | h
        · exact HS.out.new k (by rw [blocks_any A' 0 0 (2 * i) c']; exact h)
        · rw [h]; have := hs.le; simp; omega
    case measure => simp [intOf]; omega

set_option maxHeartbeats 3200000 in
set_option maxRecDepth 100000 in
theorem fnumbers (s : ByteArray) (m : Nat) (w : World) (hm : m ≤ 100) (hz : s.size ≤ 9223372036854775807) (hK : KTab w) :
    Calls Tryd.prog 106 #[.string s, .int .i64 m] w fun e w' => ∃ (A : Option Addr) (cap k : Nat) (ok : Bool) (L : List Int), e = .returned (.tuple #[.slice A L.length cap, .int .i64 k, .bool ok]) ∧ Lst w' 3 1 (.slice A L.length cap) (L.map intRow) ∧ Below w.heap.size w w' ∧ (∀ q, q ∈ blocks (.slice A 0 0) → w.heap.size ≤ q) ∧ numUp s.data.toList 0 m = (if ok = true then some (L, k) else none) ∧ (ok = false → L = []) := by
  have HK := Lib.hid hK
  have HZ := Lib.hid hz
  have VG := Lib.hid (fun (k : Nat) (W : World) hW => vget_any (s.extract k s.size) (Nat.le_trans (str_drop_size s k) hz) W hW)
  have GD := Lib.hid (fun k => getR_drop s k)
  have hsz : s.data.toList.length = s.size := rfl
  obtain ⟨b, hb⟩ : ∃ b, s.data.toList = b := ⟨_, rfl⟩
  rw [hb] at hsz ⊢
  have GD2 : Hid (∀ k, getR (s.extract k s.size) = .tuple #[.int .i64 (getV (b.drop k)), .int .i64 (kN (b.drop k) : Nat), errV (getE (b.drop k))]) := Lib.hid (fun k => by rw [GD.out, hb, kN_eq])
  have HBL := Lib.hid hsz
  clear hK hb hsz GD
  go_enter Tryd.func106, Tryd.ntmps106
  go_wp2_with fail
  go_loopw [7, 8, 13] (fun s7 s8 s13 wr => ∃ (i k : Nat) (A : Option Addr) (c : Nat) (L : List Int), s7 = .slice A i c ∧ s8 = .int .i64 k ∧ s13 = .int .i64 i ∧ i ≤ m ∧ Hid (numUp b 0 i = some (L, k)) ∧ Hid (Lst wr 3 1 (.slice A i c) (L.map intRow)) ∧ Hid (∀ q, q ∈ blocks (.slice A 0 0) → w.heap.size ≤ q) ∧ Since w wr) (fun _ _ s13 _ => m - (intOf s13).toNat)
  case atStart => exact ⟨0, 0, none, 0, [], rfl, rfl, rfl, Nat.zero_le _, Lib.hid rfl, Lib.hid (Lst.nil _ _ _), Lib.hid (by simp [Value.ownBlock]), Since.refl _⟩
  case round =>
    obtain ⟨i, k, A, c, L, rfl, rfl, rfl, hi, HU, HL, HN, hs⟩ := hrel
    obtain ⟨u1, u2, u3, u4⟩ := numUp_inv (Nat.zero_le _) i L k HU.out
    have HLEN := Lib.hid u1
    rw [HBL.out] at u2
    have hku : (k : Int) ≤ (s.size : Int) := by omega
    clear u1 u3 u4
    by_cases hlt : i < m
    case neg =>
      obtain rfl : i = m := by omega
      have hf : decide ((i : Int) < (i : Int)) = false := by simp
      trace "A"; go_wp2_with fail
      go_ret3
      exact ⟨A, c, k, true, L, by rw [HLEN.out]; rfl, by rw [HLEN.out]; exact HL.out, hs, HN.out, by rw [HU.out]; rfl, fun h => by cases h⟩
    have hlt' : (i : Int) < (m : Int) := by omega
    have VG2 := Lib.hid (VG.out k _ (HK.out.later hs))
    rw [GD2.out] at VG2
    by_cases hg : getOk (b.drop k)
    · obtain ⟨g1, g2, g3, g4⟩ := gok_yes hg
      rw [g4, errV_zero] at VG2
      have HNX := Lib.hid (numUp_yes HU.out hg)
      have hkn : Hid (kN (b.drop k) = getC (b.drop k)) := Lib.hid (by unfold kN; rw [if_pos hg])
      rw [← g2, ← hkn.out] at HNX
      have hb4 := kN_le b (k := k) (by rw [HBL.out]; exact u2)
      rw [HBL.out] at hb4
      obtain ⟨v0, v1⟩ := bits_getN (b.drop k)
      have hk2 : (k : Int) + (kN (b.drop k) : Int) = ((k + kN (b.drop k) : Nat) : Int) := by omega
      have hk3 : k + kN (b.drop k) ≤ 9223372036854775807 := by omega
      have HML : Hid ((L.map intRow).length = i) := Lib.hid (by rw [List.length_map, HLEN.out])
      clear g1 g2 g3 g4 hg hkn
      generalize getV (b.drop k) = V at *
      generalize kN (b.drop k) = kk at *
      obtain ⟨k4, hk4⟩ : ∃ k4, k + kk = k4 := ⟨_, rfl⟩
      rw [hk4] at hk2 hk3 HNX hb4
      clear hk4
      trace "B"; go_wp2_with fail
      refine VG2.out.mono ?_
      rintro e w1 ⟨rfl, hb1⟩
      have hs1 := hs.later hb1
      have HL1 := Lib.hid (HL.out.later hb1)
      clear hb1
      trace "C"; go_wp2_with (at_builtin; refine wpList_push rfl _ _ 50 rfl 3 1 8 Tryd.elInt (.slice A i c) (L.map intRow) rfl (HL1.out.alloc _) w1.heap.size 1 [.int .i64 V] rfl rfl (intRow_one V).2 (BlockIs.fresh _ _ _) (by rw [HML.out]; omega) ?_; intro q cq w5 hl5 ho5 hq5 hlt5)
      rw [HML.out] at hl5
      have hs5 : Since w w5 := (hs1.alloc _).out' ho5 (fun k hk => HN.out k (by rw [blocks_any A 0 0 i c]; exact hk))
      have HN5 : Hid (∀ j, j ∈ blocks (.slice (some ⟨q, 0, none⟩) 0 0) → w.heap.size ≤ j) := Lib.hid (fun j hj => by
        have hj' : q = j := by simpa [Value.ownBlock] using hj
        rcases hq5 with h | h
        · rw [← hj']; exact HN.out q (by rw [blocks_any A 0 0 i c]; exact h)
        · rw [← hj', h]; have := hs1.le; simp; omega)
      have HL5 : Hid (Lst w5 3 1 (.slice (some ⟨q, 0, none⟩) (i + 1) cq) ((L ++ [V]).map intRow)) := Lib.hid (by rw [List.map_append]; exact hl5)
      clear hl5 ho5 hq5 hlt5
      trace "D"; go_wp2_with fail
      go_roundw
      case rel => exact ⟨i + 1, k4, some ⟨q, 0, none⟩, cq, L ++ [V], by first | rfl | rw [HML.out] | rw [HLEN.out], rfl, by go_num, by omega, HNX, HL5, HN5, hs5⟩
      case measure => simp [intOf]; omega
    · obtain ⟨g1, g2, g3, g4⟩ := gok_no hg
      rw [g4, errV_pos (by decide)] at VG2
      have HR := Lib.hid (numUp_none (numUp_no HU.out hg) m (by omega))
      clear g1 g2 g3 g4 hg
      trace "E"; go_wp2_with fail
      refine VG2.out.mono ?_
      rintro e w1 ⟨rfl, hb1⟩
      have hs1 := hs.later hb1
      go_wp2_with fail
      go_ret3
      exact ⟨none, 0, 0, false, [], rfl, Lst.nil _ _ _, hs1, by simp [Value.ownBlock], by rw [HR.out]; rfl, fun _ => rfl⟩
end Go.Proofs.YthnolkbolmbkdaaDoor
