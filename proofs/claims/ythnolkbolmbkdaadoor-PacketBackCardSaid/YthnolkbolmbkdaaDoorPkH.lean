/- Contracts of packet.head and packet.Bytes. Condition: the number may be; the frames are right. -/
import Derived.Test.YthnolkbolmbkdaaDoorPktLaw
import Derived.Test.YthnolkbolmbkdaaDoorFrmBy
import Derived.Test.YthnolkbolmbkdaaDoorVStr
namespace Go.Proofs.YthnolkbolmbkdaaDoor
open Go.ChangeShapes Go.WideShapes Go.ChangeAt Go.RowKit
set_option linter.unusedVariables false

def u8Row (n : Int) : List Value := [.int .u8 n]
theorem u8Row_one (n : Int) : (u8Row n).length = 1 ∧ ∀ u ∈ u8Row n, u.oneCell' = true := ⟨rfl, by intro u hu; simp [u8Row] at hu; rw [hu]; rfl⟩
theorem Tryd.elU8 : Elem Tryd.prog 134 5 1 1 := ⟨Tryd.underlying134, ⟨.int .u8 0, rfl, by kernel_rfl⟩, by decide, by decide⟩
/-- a packet's first bytes as numbers -/
def hdZ (n b : Int) : List Int := b :: (if b = 1 then [n % 256] else if b = 2 then [n / 256 % 256, n % 256]
    else if b = 3 then [n / 65536 % 256, n / 256 % 256, n % 256] else [n / 16777216 % 256, n / 65536 % 256, n / 256 % 256, n % 256])
theorem hdZ_bytes {n b : Int} (h1 : 1 ≤ b) (h2 : b ≤ 4) : (hdZ n b).map byteOf = headB n b := by
  rcases four h1 h2 with rfl | rfl | rfl | rfl <;> rfl
theorem hdZ_len {n b : Int} (h1 : 1 ≤ b) (h2 : b ≤ 4) : ((hdZ n b).length : Int) = b + 1 := by
  rcases four h1 h2 with rfl | rfl | rfl | rfl <;> rfl
def shB (c : Int) : Nat → Int
  | 0 => c % 256
  | 1 => c / 256 % 256
  | 2 => c / 65536 % 256
  | _ => c / 16777216 % 256
theorem hdZ_next {n c : Int} {m j i : Nat} (hc : n % rnd (m : Int) = c) (h1 : 1 ≤ m) (h4 : m ≤ 4) (hji : m - 1 - j = i) (hj : j < m) : (hdZ n m).take (j + 2) = (hdZ n m).take (j + 1) ++ [shB c i] := by
  subst hc hji
  have hm : m = 1 ∨ m = 2 ∨ m = 3 ∨ m = 4 := by omega
  have hjj : j = 0 ∨ j = 1 ∨ j = 2 ∨ j = 3 := by omega
  rcases hm with rfl | rfl | rfl | rfl <;> rcases hjj with rfl | rfl | rfl | rfl <;> first | omega | (simp [hdZ, rnd, shB]; done) | (simp [hdZ, rnd, shB]; omega)
/-- what packet.head keeps -/
structure HdSt (w wr : World) (ns : List Int) (j : Nat) (q c : Nat) : Prop where
  ls : Lst wr 5 1 (.slice (some ⟨q, 0, none⟩) j c) ((ns.take j).map u8Row)
  new : w.heap.size ≤ q
  since : Since w wr

theorem HdSt.step {w wr w5 : World} {ns : List Int} {j q c q9 cq : Nat} {x y : Int} {o : Obj} (h : HdSt w wr ns (j + 1) q c) (ht : ns.take (j + 2) = ns.take (j + 1) ++ [y]) (hx : y = x) (hml : ((ns.take (j + 1)).map u8Row).length = j + 1)
    (hl : Lst w5 5 1 (.slice (some ⟨q9, 0, none⟩) (j + 1 + 1) cq) ((ns.take (j + 1)).map u8Row ++ [[.int .u8 x]])) (ho : Out (wr.alloc o) w5 (blocks (.slice (some ⟨q, 0, none⟩) (j + 1) c))) (hq : q9 ∈ blocks (.slice (some ⟨q, 0, none⟩) (j + 1) c) ∨ q9 = (wr.alloc o).heap.size) : HdSt w w5 ns (j + 1 + 1) q9 cq := by
  subst hx
  have hkk : ∀ k, k ∈ blocks (.slice (some ⟨q, 0, none⟩) (j + 1) c) → w.heap.size ≤ k := fun k hk => by
    have : q = k := by simpa [Value.ownBlock] using hk
    rw [← this]; exact h.new
  refine ⟨by rw [ht, List.map_append]; exact hl, ?_, (h.since.alloc o).out' ho hkk⟩
  rcases hq with hq | hq
  · exact hkk q9 hq
  · rw [hq]; have := h.since.le; simp; omega
set_option maxHeartbeats 1600000 in
set_option maxRecDepth 100000 in
theorem phead (n b : Int) (w : World) (h0 : 0 ≤ n) (hn : n ≤ 1073741823) (h1 : 1 ≤ b) (h2 : b ≤ 4) :
    Calls Tryd.prog 110 #[.int .i64 n, .int .i64 b] w fun e w' => e = .returned (.string ⟨(headB n b).toArray⟩) ∧ Below w.heap.size w w' := by
  have hwrap : IntKind.u8.wrap b = b := by simp [IntKind.wrap, IntKind.bits, IntKind.signed]; omega
  obtain ⟨m, rfl⟩ : ∃ m : Nat, b = m := ⟨b.toNat, by omega⟩
  have hrn := rnd_bounds (m : Int)
  have hc0 : 0 ≤ n % rnd (m : Int) := Int.emod_nonneg _ (by omega)
  have hc1 : n % rnd (m : Int) < rnd (m : Int) := Int.emod_lt_of_pos _ (by omega)
  obtain ⟨c, hc⟩ : ∃ c, n % rnd (m : Int) = c := ⟨_, rfl⟩
  have HCD := Lib.hid hc
  rw [hc] at hc0 hc1
  go_enter Tryd.func110, Tryd.ntmps110
  trace "A"; go_wp2_with fail
  refine (short_any n m h0 h1 h2 _).mono ?_
  rintro e w1 ⟨rfl, rfl⟩
  rw [hc]
  clear hc
  trace "B"; go_wp2_with fail
  go_loopw [5, 7] (fun s5 s7 wr => ∃ (j q cp : Nat), s5 = .slice (some ⟨q, 0, none⟩) (j + 1) cp ∧ s7 = .int .i64 ((m : Int) - 1 - j) ∧ j ≤ m ∧ HdSt w wr (hdZ n m) (j + 1) q cp) (fun _ s7 _ => (intOf s7 + 1).toNat)
  case atStart => exact ⟨0, w.heap.size, 1, rfl, by simp, Nat.zero_le _, ⟨⟨World.ownsRow_lit (base := 0) w #[.int .u8 m] 1 (Nat.zero_le _) (by decide) rfl, by intro e he; obtain ⟨z, _, rfl⟩ := List.mem_map.1 he; exact u8Row_one z⟩, Nat.le_refl _, (by refine Since.out ?_; repeat (first | with_reducible assumption | with_reducible exact Since.refl _ | with_reducible refine Since.later ?_ (by with_reducible assumption) | with_reducible refine Since.only ?_ (by with_reducible assumption) (by first | assumption | omega | (simp; done) | (simp; omega)) | with_reducible refine Since.alloc ?_ _ | with_reducible refine Since.drewN ?_ _ | with_reducible refine Since.drew ?_ | with_reducible refine Since.set ?_ (by first | assumption | omega | (simp; done) | (simp; omega)) _))⟩⟩
  case round =>
    obtain ⟨j, q, cp, rfl, rfl, hj, hS⟩ := hrel
    by_cases hlt : j < m
    case neg =>
      obtain rfl : j = m := by omega
      have hm1 : (j : Int) - 1 - (j : Int) = -1 := by omega
      have hln : (hdZ n j).length = j + 1 := by have := hdZ_len (n := n) h1 h2; omega
      have hcv := conv_of (W := wr) (g := q) (c := cp) (ns := hdZ n j) (fun k v hk => by
        rw [List.getElem?_map] at hk
        cases hz : (hdZ n j)[k]? with
        | none => rw [hz] at hk; cases hk
        | some z =>
          rw [hz] at hk
          simp only [Option.map_some, Option.some.injEq] at hk
          subst hk
          have hl := hS.ls
          rw [List.take_of_length_le (by omega)] at hl
          have := hl.cell rfl (i := k) (j := 0) (e := u8Row z) (u := .int .u8 z) (by rw [List.getElem?_map, hz]; rfl) rfl
          simpa using this)
      rw [hln, hdZ_bytes h1 h2] at hcv
      rw [hm1]
      have hs := Lib.hid hS.since
      clear hS hln hm1
      trace "N"; go_wp2_with fail
      go_ret
      exact ⟨by rfl, hs.out⟩
    have hi : (m : Int) - 1 - (j : Int) = ((m - 1 - j : Nat) : Int) := by omega
    rw [hi]
    obtain ⟨i, hi2⟩ : ∃ i, m - 1 - j = i := ⟨_, rfl⟩
    have HI2 := Lib.hid hi2
    rw [hi2]
    have hi4 : i = 0 ∨ i = 1 ∨ i = 2 ∨ i = 3 := by omega
    clear hi hi2
    have HS := Lib.hid hS
    have HML : Hid ((((hdZ n m).take (j + 1)).map u8Row).length = j + 1) := Lib.hid (by have := hdZ_len (n := n) h1 h2; simp; omega)
    have HT := Lib.hid (hdZ_next (j := j) HCD.out (by omega) (by omega) HI2.out hlt)
    clear hS
    rcases hi4 with rfl | rfl | rfl | rfl
    · have HX := Lib.hid (show shB c 0 = c % 256 from rfl)
      trace "C0"; go_wp2_with (at_builtin; refine wpList_push rfl _ _ 134 rfl 5 1 1 Tryd.elU8 (.slice (some ⟨q, 0, none⟩) (j + 1) cp) (((hdZ n m).take (j + 1)).map u8Row) rfl (HS.out.ls.alloc _) wr.heap.size 1 [.int .u8 (c % 256)] rfl rfl (u8Row_one _).2 (BlockIs.fresh _ _ _) (by rw [HML.out]; omega) ?_; intro q9 cq w5 hl5 ho5 hq5 hlt5; rw [HML.out] at hl5; (try rw [HML.out]); have HN5 := Lib.hid (HS.out.step (HT.out) HX.out HML.out hl5 ho5 hq5); clear hl5 ho5 hq5 hlt5)
      go_roundw
      case rel => exact ⟨j + 1, q9, cq, rfl, by have := HI2.out; first | (simp; omega) | (congr 1; omega), by omega, HN5.out⟩
      case measure => (simp [intOf]; try omega)
    · have HX := Lib.hid (show shB c 1 = c / 256 % 256 from rfl)
      trace "C1"; go_wp2_with (at_builtin; refine wpList_push rfl _ _ 134 rfl 5 1 1 Tryd.elU8 (.slice (some ⟨q, 0, none⟩) (j + 1) cp) (((hdZ n m).take (j + 1)).map u8Row) rfl (HS.out.ls.alloc _) wr.heap.size 1 [.int .u8 (c / 256 % 256)] rfl rfl (u8Row_one _).2 (BlockIs.fresh _ _ _) (by rw [HML.out]; omega) ?_; intro q9 cq w5 hl5 ho5 hq5 hlt5; rw [HML.out] at hl5; (try rw [HML.out]); have HN5 := Lib.hid (HS.out.step (HT.out) HX.out HML.out hl5 ho5 hq5); clear hl5 ho5 hq5 hlt5)
      go_roundw
      case rel => exact ⟨j + 1, q9, cq, rfl, by have := HI2.out; first | (simp; omega) | (congr 1; omega), by omega, HN5.out⟩
      case measure => (simp [intOf]; try omega)
    · have HX := Lib.hid (show shB c 2 = c / 65536 % 256 from rfl)
      trace "C2"; go_wp2_with (at_builtin; refine wpList_push rfl _ _ 134 rfl 5 1 1 Tryd.elU8 (.slice (some ⟨q, 0, none⟩) (j + 1) cp) (((hdZ n m).take (j + 1)).map u8Row) rfl (HS.out.ls.alloc _) wr.heap.size 1 [.int .u8 (c / 65536 % 256)] rfl rfl (u8Row_one _).2 (BlockIs.fresh _ _ _) (by rw [HML.out]; omega) ?_; intro q9 cq w5 hl5 ho5 hq5 hlt5; rw [HML.out] at hl5; (try rw [HML.out]); have HN5 := Lib.hid (HS.out.step (HT.out) HX.out HML.out hl5 ho5 hq5); clear hl5 ho5 hq5 hlt5)
      go_roundw
      case rel => exact ⟨j + 1, q9, cq, rfl, by have := HI2.out; first | (simp; omega) | (congr 1; omega), by omega, HN5.out⟩
      case measure => (simp [intOf]; try omega)
    · have HX := Lib.hid (show shB c 3 = c / 16777216 by show c / 16777216 % 256 = _; omega)
      trace "C3"; go_wp2_with (at_builtin; refine wpList_push rfl _ _ 134 rfl 5 1 1 Tryd.elU8 (.slice (some ⟨q, 0, none⟩) (j + 1) cp) (((hdZ n m).take (j + 1)).map u8Row) rfl (HS.out.ls.alloc _) wr.heap.size 1 [.int .u8 (c / 16777216)] rfl rfl (u8Row_one _).2 (BlockIs.fresh _ _ _) (by rw [HML.out]; omega) ?_; intro q9 cq w5 hl5 ho5 hq5 hlt5; rw [HML.out] at hl5; (try rw [HML.out]); have HN5 := Lib.hid (HS.out.step (HT.out) HX.out HML.out hl5 ho5 hq5); clear hl5 ho5 hq5 hlt5)
      go_roundw
      case rel => exact ⟨j + 1, q9, cq, rfl, by have := HI2.out; first | (simp; omega) | (congr 1; omega), by omega, HN5.out⟩
      case measure => (simp [intOf]; try omega)
end Go.Proofs.YthnolkbolmbkdaaDoor
