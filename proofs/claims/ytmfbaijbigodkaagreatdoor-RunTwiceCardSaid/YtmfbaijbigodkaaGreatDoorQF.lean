/- Contracts and plain laws that the claim leans on, part 6 of 8: each part has its own word. No condition beside theirs. -/
import Derived.Test.YtmfbaijbigodkaaGreatDoorBase
import Derived.Test.YtmfbaijbigodkaaGreatDoorOnly
import Derived.Test.YtmfbaijbigodkaaGreatDoorMay
import Derived.Test.YtmfbaijbigodkaaGreatDoorCredit
import Derived.Test.YtmfbaijbigodkaaGreatDoorQE
import Derived.Shelf.Strings.Builder1
import Derived.Shelf.Strings.Builder2
import Derived.Shelf.Strings.OnBuilder
import Derived.Shelf.Small.Bits
import Derived.Shelf.Small.Strs
import Derived.Shelf.Strings.BuilderF
import Derived.Shelf.Strings.BuilderK
import Derived.Shelf.Utf8.RuneCount
import Derived.Shelf.Strconv.Atoi
import Derived.Shelf.Strconv.Itoa0
import Derived.Shelf.Strconv.Itoa1
import Derived.Shelf.LaysM
import Derived.Shelf.Strconv.Itoa2
import Derived.Shelf.Strconv.Itoa3
import Derived.Shelf.Strconv.AtoiErrFast
import Derived.Shelf.Strconv.ParseIntEmpty
import Derived.Shelf.Strconv.AtoiFail
import Derived.Shelf.Strconv.Clone
import Derived.Shelf.Strconv.SyntaxError
import Derived.Shelf.LaysC
import Derived.Shelf.Strconv.ToError
import Derived.Shelf.Strconv.Lower
import Derived.Shelf.Strconv.ParseUint10
import Derived.Shelf.Strconv.ParseUint10Empty
import Derived.Shelf.Strconv.ParseUint10Any
import Derived.Shelf.Strconv.ParseInt10
import Derived.Shelf.Strconv.AtoiLong
import Derived.Shelf.Strconv.AtoiInnerAll
import Derived.Shelf.Strconv.RangeError
import Derived.Shelf.Strconv.ToErrorRange
import Derived.Shelf.Strconv.AtoiAll
import Derived.Shelf.Strconv.ErrVarAll
import Derived.Shelf.Strings.Search1
import Derived.Shelf.Strings.Search2
import Derived.Shelf.Strings.Search3
import Derived.Shelf.Strings.Count
import Derived.Shelf.Strings.Shaped
import Derived.Shelf.Strings.Prefix
import Derived.Shelf.Strings.Split
import Derived.Shelf.Strings.SplitShaped
import Derived.Shelf.Unicode.Decode
import Derived.Shelf.Strings.RuneCount
import Derived.Shelf.Strings.Explode
import Derived.Shelf.Unicode.DecodeSlow
import Derived.Shelf.Unicode.DecodeAny
import Derived.Test.YtmfbaijbigodkaaGreatDoorProg
import Derived.Lib.LaidTab
import Derived.Lib.ItoaNum
import Derived.Stop.LaidErr
import Derived.Lib.ItoaMem
import Derived.Sort.Grow
import Derived.Lib.Atoi
import Derived.Lib.LastIndexLaws
import Derived.Lib.IndexLaws
import Derived.Lib.Strings
import Derived.Lib.SplitLaws
import Derived.Lib.AtoiTie
import Derived.Lib.Join
import Derived.Maps.OwnSet
import Derived.Maps.OwnOps
import Derived.Deep.RegionHeld3
import Derived.Deep.QuietTactic
import Derived.BigQuiet
/-! Contracts of package talk. Condition: the blocks hold a talk as New and the calls leave it, each end made no more than 1000 packets, the tables lie there. -/
namespace Go.Proofs.YtmfbaijbigodkaaGreatDoor
open Go.ChangeShapes Go.WideShapes Go.ChangeAt Go.RowKit
set_option linter.unusedVariables false

/-- a link at g -/
def linkT (g : Nat) (L : List Let) : Thing where
  is w S := ∃ v, Kz w g v L ∧ S = g :: blocks v
  lt h k hk := by
    obtain ⟨v, hz, rfl⟩ := h
    exact hz.lt k hk
  kept h ho hd := by
    obtain ⟨v, hz, rfl⟩ := h
    exact ⟨v, hz.kept ho hd, rfl⟩
theorem linkT_left {w w' : World} {g : Nat} {v : Value} {L : List Let} (h : KLeft w w' g v L) : Leaves w w' (g :: blocks v) (linkT g L) := by
  obtain ⟨v', h1, h2, h3⟩ := h
  refine ⟨g :: blocks v', ⟨v', h1, rfl⟩, h2, fun k hk => ?_⟩
  rcases List.mem_cons.1 hk with rfl | hk
  · exact Or.inl (by simp)
  · rcases h3 k hk with h | h
    · exact Or.inl (List.mem_cons_of_mem _ h)
    · exact Or.inr h
/-- a talk: letters on their way, two ends -/
structure TkS where
  L : List Let
  e0 : EnS
  e1 : EnS
def TkS.e (s : TkS) (who : Int) : EnS := if who = 0 then s.e0 else s.e1
def TkS.set (s : TkS) (who : Int) (x : EnS) : TkS := if who = 0 then { s with e0 := x } else { s with e1 := x }
def TkS.new (n : Int) : TkS := ⟨[], EnS.new n, EnS.new n⟩
/-- where it lies -/
structure TkP where
  gw : Nat
  g0 : Nat
  g1 : Nat
def tkParts (g : Nat) (s : TkS) (p : TkP) : List Thing :=
  [Thing.block g 123 #[.pointer (some ⟨p.gw, 0, none⟩), .pointer (some ⟨p.g0, 0, none⟩), .pointer (some ⟨p.g1, 0, none⟩)], linkT p.gw s.L, endT p.g0 s.e0, endT p.g1 s.e1]
def TkOk (s : TkS) : Prop := s.L.length ≤ 40 ∧ ∀ l ∈ s.L, whoB l.too = true ∧ l.b.size ≤ 200
def talkT (g : Nat) (s : TkS) : Thing := Thing.ex fun p : TkP => Thing.with_ (TkOk s) (Thing.all (tkParts g s p))
theorem talkT_open {w : World} {S : List Nat} {g : Nat} {s : TkS} (h : (talkT g s).is w S) : ∃ p, TkOk s ∧ Own w S w (tkParts g s p) := by
  obtain ⟨p, h1, h3⟩ := h
  exact ⟨p, h1, Own.unfold_ h3⟩
theorem talkT_close {w w' : World} {S : List Nat} {g : Nat} {s : TkS} {p : TkP} (h1 : TkOk s) (h : Own w S w' (tkParts g s p)) : Leaves w w' S (talkT g s) :=
  Leaves.ex p (Leaves.with_ h1 h.closed)
set_option maxHeartbeats 3200000 in
theorem tnew (n : Int) (h1 : 1 ≤ n) (h2 : n ≤ 1000) (w : World) :
    Calls Tryz.prog 23 #[.int .i64 n] w fun e w' => ∃ g, e = .returned (.tuple #[.pointer (some ⟨g, 0, none⟩), .nilIface]) ∧ Leaves w w' [] (talkT g (TkS.new n)) := by
  have hN := Lib.hid (fun W => enew n h1 h2 W)
  go_enter Tryz.func23, Tryz.ntmps23
  go_wp2_with (go_at_call 67; refine (knew _).mono ?_; rintro e w1 ⟨rfl, hz, hb1⟩)
  have HW1 : Hid (Own w [] (w1.alloc (.cells #[.pointer (some ⟨w.heap.size, 0, none⟩), .pointer none, .pointer none] 123)) [linkT w.heap.size [], Thing.block w1.heap.size 123 #[.pointer (some ⟨w.heap.size, 0, none⟩), .pointer none, .pointer none]]) := Lib.hid (((Own.start w).add hb1 (S := [w.heap.size]) (t := linkT w.heap.size []) ⟨_, hz, rfl⟩ (by simp)).alloc _ _)
  clear hz hb1
  obtain ⟨gt, hgt⟩ : ∃ g, w1.heap.size = g := ⟨_, rfl⟩
  obtain ⟨gw, hgw⟩ : ∃ g, w.heap.size = g := ⟨_, rfl⟩
  rw [hgt, hgw] at HW1
  obtain ⟨wa, hwa⟩ : ∃ x, w1.alloc (.cells #[.pointer (some ⟨gw, 0, none⟩), .pointer none, .pointer none] 123) = x := ⟨_, rfl⟩
  rw [hwa] at HW1
  rw [hgt, hgw, hwa]
  clear hgt hgw hwa
  refine wp_loop_rounds 3 ?_
  rw [rounds_succ]
  trace "A"; go_wp2_with fail
  refine (hN.out _).mono ?_
  rintro e w2 ⟨g0, rfl, hl⟩
  have HW2 := Lib.hid (HW1.out.made hl)
  have c1 : w2.cell? ⟨gt, 1, none⟩ = some (.pointer none) := (HW2.out.blk 1 rfl).cell 1
  have fr := (HW2.out.blk 1 rfl).free
  have lt := (HW2.out.blk 1 rfl).lt
  clear hl HW1
  trace "B"; go_wp2_with fail
  have HW3 := Lib.hid (HW2.out.put 1 rfl 1 (.pointer (some ⟨g0, 0, none⟩)))
  clear HW2 c1 fr lt
  obtain ⟨wb, hwb⟩ : ∃ x, w2.setCell ⟨gt, 1, none⟩ (.pointer (some ⟨g0, 0, none⟩)) = x := ⟨_, rfl⟩
  rw [hwb] at HW3
  rw [hwb]
  clear hwb
  rw [rounds_succ]
  trace "C"; go_wp2_with fail
  refine (hN.out _).mono ?_
  rintro e w4 ⟨g1, rfl, hl⟩
  have HW4 := Lib.hid (HW3.out.made hl)
  have c2 : w4.cell? ⟨gt, 2, none⟩ = some (.pointer none) := (HW4.out.blk 1 rfl).cell 2
  have fr := (HW4.out.blk 1 rfl).free
  have lt := (HW4.out.blk 1 rfl).lt
  clear hl HW3
  trace "D"; go_wp2_with fail
  rw [rounds_succ]
  trace "E"; go_wp2_with fail
  go_ret2
  have HW5 := HW4.out.put 1 rfl 2 (.pointer (some ⟨g1, 0, none⟩))
  refine ⟨gt, rfl, talkT_close (p := ⟨gw, g0, g1⟩) ⟨by simp [TkS.new], by simp [TkS.new]⟩ ?_⟩
  refine Own.pick HW5 [1, 0, 2, 3] (by decide) (fun i t hi => ?_)
  match i, hi with
  | 0, hi => exact ⟨1, rfl, hi⟩
  | 1, hi => exact ⟨0, rfl, hi⟩
  | 2, hi => exact ⟨2, rfl, hi⟩
  | 3, hi => exact ⟨3, rfl, hi⟩
theorem tcount (g : Nat) (s : TkS) (w : World) (S : List Nat) (h : (talkT g s).is w S) :
    Calls Tryz.prog 35 #[.pointer (some ⟨g, 0, none⟩)] w fun e w' => e = .returned (.int .i64 s.L.length) ∧ w = w' := by
  obtain ⟨p, ok, ho⟩ := talkT_open h
  have HO := Lib.hid ho
  have c0 : w.cell? ⟨g, 0, none⟩ = some (.pointer (some ⟨p.gw, 0, none⟩)) := (ho.blk 0 rfl).cell 0
  have lg := (ho.blk 0 rfl).lt
  obtain ⟨S1, ⟨v, hz, -⟩, -⟩ := ho.at_ 1 rfl
  have HZ := Lib.hid hz
  clear h ho hz
  go_enter Tryz.func35, Tryz.ntmps35
  go_wp2_with (go_at_call 74; refine (kcount p.gw v s.L _ HZ.out).mono ?_; rintro e w1 ⟨rfl, rfl⟩)
  go_ret
  exact ⟨rfl, rfl⟩
/-- Send -/
def TkS.sendE (s : TkS) (who : Int) : Int := if whoB who = true then (if s.L.length = 40 then 4 else 0) else 1
def TkS.send (s : TkS) (who : Int) : TkS := if s.sendE who = 0 then { s.set who (s.e who).make with L := s.L ++ [⟨1 - who, ⟨(s.e who).packet.toArray⟩⟩] } else s
/-- Come -/
noncomputable def TkS.comeE (s : TkS) (i : Int) : Int := if isB s.L i = true then (s.e (giveD s.L i).too).takeE (giveD s.L i).b.data.toList else 1
noncomputable def TkS.come (s : TkS) (i : Int) : TkS := if isB s.L i = true then { s.set (giveD s.L i).too ((s.e (giveD s.L i).too).take (giveD s.L i).b.data.toList) with L := giveL s.L i } else s
/-- Read -/
def TkS.readE (who n : Int) : Int := if whoB who = true then EnS.readE n else 1
def TkS.readS (s : TkS) (who n : Int) : ByteArray := if whoB who = true then (s.e who).readS n else ⟨#[]⟩
def TkS.read (s : TkS) (who n : Int) : TkS := if whoB who = true then s.set who ((s.e who).read n) else s
theorem whoB_iff {x : Int} : whoB x = true ↔ x = 0 ∨ x = 1 := by unfold whoB; simp
set_option maxHeartbeats 1600000 in
theorem tread (g : Nat) (s : TkS) (who n : Int) (w : World) (S : List Nat) (h : (talkT g s).is w S) :
    Calls Tryz.prog 26 #[.pointer (some ⟨g, 0, none⟩), .int .i64 who, .int .i64 n] w fun e w' => e = .returned (.tuple #[.string (s.readS who n), errV (TkS.readE who n)]) ∧ Leaves w w' S (talkT g (s.read who n)) := by
  have H := Lib.hid h
  obtain ⟨p, ok, ho⟩ := talkT_open h
  have HOK := Lib.hid ok
  have HO := Lib.hid ho
  have c1 : w.cell? ⟨g, 1, none⟩ = some (.pointer (some ⟨p.g0, 0, none⟩)) := (ho.blk 0 rfl).cell 1
  have c2 : w.cell? ⟨g, 2, none⟩ = some (.pointer (some ⟨p.g1, 0, none⟩)) := (ho.blk 0 rfl).cell 2
  have lg := (ho.blk 0 rfl).lt
  clear h ho ok
  cases hw : whoB who with
  | false =>
    have HE : Hid (TkS.readE who n = 1 ∧ s.readS who n = ⟨#[]⟩ ∧ s.read who n = s) := Lib.hid ⟨by unfold TkS.readE; rw [hw]; rfl, by unfold TkS.readS; rw [hw]; rfl, by unfold TkS.read; rw [hw]; rfl⟩
    rw [HE.out.1, HE.out.2.1, HE.out.2.2]
    go_enter Tryz.func26, Tryz.ntmps26
    go_wp2_with (go_at_call 68; refine (who_any who _).mono ?_; rintro e w1 ⟨rfl, rfl⟩; rw [hw])
    go_ret2
    exact ⟨rfl, Leaves.same H.out (Below.refl _ _)⟩
  | true =>
    rcases whoB_iff.1 hw with rfl | rfl
    · have HE : Hid (TkS.readE 0 n = EnS.readE n ∧ s.readS 0 n = s.e0.readS n ∧ s.read 0 n = { s with e0 := s.e0.read n }) := Lib.hid ⟨rfl, rfl, rfl⟩
      rw [HE.out.1, HE.out.2.1, HE.out.2.2]
      obtain ⟨S2, hS2, up⟩ := HO.out.at_ 2 rfl
      clear hw
      go_enter Tryz.func26, Tryz.ntmps26
      go_wp2_with (first | (go_at_call 68; refine (who_any 0 _).mono ?_; rintro e w1 ⟨rfl, rfl⟩) | (go_at_call 14; refine (eread p.g0 s.e0 n _ S2 hS2).mono ?_; rintro e w1 ⟨rfl, hl⟩))
      go_ret2
      exact ⟨rfl, talkT_close (p := p) HOK.out (up _ _ hl)⟩
    · have HE : Hid (TkS.readE 1 n = EnS.readE n ∧ s.readS 1 n = s.e1.readS n ∧ s.read 1 n = { s with e1 := s.e1.read n }) := Lib.hid ⟨rfl, rfl, rfl⟩
      rw [HE.out.1, HE.out.2.1, HE.out.2.2]
      obtain ⟨S3, hS3, up⟩ := HO.out.at_ 3 rfl
      clear hw
      go_enter Tryz.func26, Tryz.ntmps26
      go_wp2_with (first | (go_at_call 68; refine (who_any 1 _).mono ?_; rintro e w1 ⟨rfl, rfl⟩) | (go_at_call 14; refine (eread p.g1 s.e1 n _ S3 hS3).mono ?_; rintro e w1 ⟨rfl, hl⟩))
      go_ret2
      exact ⟨rfl, talkT_close (p := p) HOK.out (up _ _ hl)⟩
theorem giveD_mem {L : List Let} {i : Int} (h : isB L i = true) : giveD L i ∈ L := by
  unfold giveD
  rw [if_pos h]
  obtain ⟨h0, h1⟩ := isB_iff.1 h
  have hl : i.toNat < L.length := by omega
  rw [show L.getD i.toNat noLet = L[i.toNat] by simp [List.getD, List.getElem?_eq_getElem hl]]
  exact List.getElem_mem _
theorem giveL_sub {L : List Let} {i : Int} : (giveL L i).length ≤ L.length ∧ ∀ l ∈ giveL L i, l ∈ L := by
  unfold giveL
  split
  · refine ⟨by rw [List.length_append, List.length_take, List.length_drop]; omega, fun l hl => ?_⟩
    rcases List.mem_append.1 hl with h | h
    · exact List.mem_of_mem_take h
    · exact List.mem_of_mem_drop h
  · exact ⟨Nat.le_refl _, fun l hl => hl⟩
set_option maxHeartbeats 3200000 in
theorem tsend (g : Nat) (s : TkS) (who : Int) (w : World) (S : List Nat) (h : (talkT g s).is w S) (hK : KTab w) (hm : (s.e who).made.length ≤ 1000) :
    Calls Tryz.prog 27 #[.pointer (some ⟨g, 0, none⟩), .int .i64 who] w fun e w' => e = .returned (errV (s.sendE who)) ∧ Leaves w w' S (talkT g (s.send who)) := by
  have H := Lib.hid h
  have HK := Lib.hid hK
  obtain ⟨p, ok, ho⟩ := talkT_open h
  have HOK := Lib.hid ok
  have HO := Lib.hid ho
  have c0 : w.cell? ⟨g, 0, none⟩ = some (.pointer (some ⟨p.gw, 0, none⟩)) := (ho.blk 0 rfl).cell 0
  have c1 : w.cell? ⟨g, 1, none⟩ = some (.pointer (some ⟨p.g0, 0, none⟩)) := (ho.blk 0 rfl).cell 1
  have c2 : w.cell? ⟨g, 2, none⟩ = some (.pointer (some ⟨p.g1, 0, none⟩)) := (ho.blk 0 rfl).cell 2
  have lg := (ho.blk 0 rfl).lt
  clear h ho ok hK
  cases hw : whoB who with
  | false =>
    have HE : Hid (s.sendE who = 1 ∧ s.send who = s) := Lib.hid (by
      have e1 : s.sendE who = 1 := by unfold TkS.sendE; rw [hw]; rfl
      exact ⟨e1, by unfold TkS.send; rw [e1, if_neg (by decide)]⟩)
    rw [HE.out.1, HE.out.2]
    go_enter Tryz.func27, Tryz.ntmps27
    go_wp2_with (go_at_call 68; refine (who_any who _).mono ?_; rintro e w1 ⟨rfl, rfl⟩; rw [hw])
    go_ret
    exact ⟨rfl, Leaves.same H.out (Below.refl _ _)⟩
  | true =>
    rcases whoB_iff.1 hw with rfl | rfl
    · have HE : Hid (s.sendE 0 = (if s.L.length = 40 then 4 else 0) ∧ s.e 0 = s.e0) := Lib.hid ⟨rfl, rfl⟩
      have HS : Hid (¬ s.L.length = 40 → s.send 0 = { s with e0 := s.e0.make, L := s.L ++ [⟨1, ⟨s.e0.packet.toArray⟩⟩] }) := Lib.hid (fun h0 => by unfold TkS.send; rw [HE.out.1, if_neg h0, if_pos rfl]; rfl)
      have HS1 : Hid (s.L.length = 40 → s.send 0 = s) := Lib.hid (fun h0 => by unfold TkS.send; rw [HE.out.1, if_pos h0, if_neg (by decide)])
      obtain ⟨S1, ⟨v0, hz0, -⟩, -⟩ := HO.out.at_ 1 rfl
      have HZ0 := Lib.hid hz0
      clear hw hz0
      by_cases hf : s.L.length = 40
      · rw [HE.out.1, if_pos hf, HS1.out hf]
        have hfb : fullB s.L = true := by unfold fullB; simpa using hf
        clear hf
        go_enter Tryz.func27, Tryz.ntmps27
        go_wp2_with (first | (go_at_call 68; refine (who_any 0 _).mono ?_; rintro e w1 ⟨rfl, rfl⟩) | (go_at_call 69; refine (kfull p.gw v0 s.L _ HZ0.out).mono ?_; rintro e w1 ⟨rfl, rfl⟩; rw [hfb]))
        go_ret
        exact ⟨rfl, Leaves.same H.out (Below.refl _ _)⟩
      · rw [HE.out.1, if_neg hf, HS.out hf, errV_zero]
        have hfb : fullB s.L = false := by unfold fullB; simpa using hf
        obtain ⟨S2, hS2, up⟩ := HO.out.at_ 2 rfl
        have hme : (s.e0).made.length ≤ 1000 := hm
        have hokE : EnOk s.e0 := by obtain ⟨q, hq⟩ := endT_open hS2; exact hq.ok
        have hpk : s.e0.packet.length ≤ 177 := (hokE.packetOk (by omega)).2.2
        have HSE : Hid (Go.Proofs.YtmfbaijbigodkaaGreatDoor.sendE s.L 1 ⟨s.e0.packet.toArray⟩ = 0 ∧ sendL s.L 1 ⟨s.e0.packet.toArray⟩ = s.L ++ [⟨1, ⟨s.e0.packet.toArray⟩⟩]) := Lib.hid (by
          have e0 : Go.Proofs.YtmfbaijbigodkaaGreatDoor.sendE s.L 1 ⟨s.e0.packet.toArray⟩ = 0 := by
            unfold Go.Proofs.YtmfbaijbigodkaaGreatDoor.sendE
            rw [if_pos (by decide), if_neg]
            rintro (h1 | h1)
            · exact hf h1
            · have : (200 : Nat) < s.e0.packet.toArray.size := h1
              rw [List.size_toArray] at this
              omega
          exact ⟨e0, by unfold sendL; rw [if_pos e0]⟩)
        have HOK2 : Hid (TkOk { s with e0 := s.e0.make, L := s.L ++ [⟨1, ⟨s.e0.packet.toArray⟩⟩] }) := Lib.hid (by
          refine ⟨by show (s.L ++ [_]).length ≤ 40; rw [List.length_append]; have := HOK.out.1; simp; omega, fun l hl => ?_⟩
          rcases List.mem_append.1 hl with h | h
          · exact HOK.out.2 l h
          · rw [List.mem_singleton.1 h]
            refine ⟨rfl, ?_⟩
            show s.e0.packet.toArray.size ≤ 200
            rw [List.size_toArray]; omega)
        have HSZ : Hid ((ByteArray.mk s.e0.packet.toArray).size ≤ 9223372036854775807) := Lib.hid (by show s.e0.packet.toArray.size ≤ _; rw [List.size_toArray]; omega)
        clear hf hokE hpk
        go_enter Tryz.func27, Tryz.ntmps27
        go_wp2_with (first | (go_at_call 68; refine (who_any 0 _).mono ?_; rintro e w1 ⟨rfl, rfl⟩) | (go_at_call 69; refine (kfull p.gw v0 s.L _ HZ0.out).mono ?_; rintro e w1 ⟨rfl, rfl⟩; rw [hfb]))
        go_region_law (first
          | (go_simp; go_at_call 15; refine (emake p.g0 s.e0 _ S2 ((endT p.g0 s.e0).later hS2 (show Since w _ from (by refine Since.out ?_; repeat (first | with_reducible assumption | with_reducible exact Since.refl _ | with_reducible refine Since.later ?_ (by with_reducible assumption) | with_reducible refine Since.only ?_ (by with_reducible assumption) (by first | assumption | omega | (simp; done) | (simp; omega)) | with_reducible refine Since.alloc ?_ _ | with_reducible refine Since.drewN ?_ _ | with_reducible refine Since.drew ?_ | with_reducible refine Since.set ?_ (by first | assumption | omega | (simp; done) | (simp; omega)) _)))) (HK.out.later (show Since w _ from (by refine Since.out ?_; repeat (first | with_reducible assumption | with_reducible exact Since.refl _ | with_reducible refine Since.later ?_ (by with_reducible assumption) | with_reducible refine Since.only ?_ (by with_reducible assumption) (by first | assumption | omega | (simp; done) | (simp; omega)) | with_reducible refine Since.alloc ?_ _ | with_reducible refine Since.drewN ?_ _ | with_reducible refine Since.drew ?_ | with_reducible refine Since.set ?_ (by first | assumption | omega | (simp; done) | (simp; omega)) _)))) hme).mono ?_; rintro e w1 ⟨rfl, hl⟩; have HW1 := Lib.hid (up _ _ (Leaves.drew hl)); obtain ⟨S1', ⟨v1, hz1, hS1'⟩, up1⟩ := HW1.out.at_ 1 rfl; have d0 : w1.cell? ⟨g, 0, none⟩ = some (.pointer (some ⟨p.gw, 0, none⟩)) := (HW1.out.blk 0 rfl).cell 0; have ld := (HW1.out.blk 0 rfl).lt)
          | (go_simp; go_at_call 70; refine (ksend p.gw v1 s.L 1 ⟨s.e0.packet.toArray⟩ _ hz1 HSZ.out).mono ?_; rintro e w2 ⟨rfl, hk⟩; rw [HSE.out.1, errV_zero]; rw [HSE.out.2] at hk))
        all_goals
          go_wp2_with fail
          go_ret
          refine ⟨rfl, talkT_close (p := p) HOK2.out ?_⟩
          have h9 := up1 _ _ (by rw [hS1']; exact linkT_left hk)
          exact h9
    · have HE : Hid (s.sendE 1 = (if s.L.length = 40 then 4 else 0) ∧ s.e 1 = s.e1) := Lib.hid ⟨rfl, rfl⟩
      have HS : Hid (¬ s.L.length = 40 → s.send 1 = { s with e1 := s.e1.make, L := s.L ++ [⟨0, ⟨s.e1.packet.toArray⟩⟩] }) := Lib.hid (fun h0 => by unfold TkS.send; rw [HE.out.1, if_neg h0, if_pos rfl]; rfl)
      have HS1 : Hid (s.L.length = 40 → s.send 1 = s) := Lib.hid (fun h0 => by unfold TkS.send; rw [HE.out.1, if_pos h0, if_neg (by decide)])
      obtain ⟨S1, ⟨v0, hz0, -⟩, -⟩ := HO.out.at_ 1 rfl
      have HZ0 := Lib.hid hz0
      clear hw hz0
      by_cases hf : s.L.length = 40
      · rw [HE.out.1, if_pos hf, HS1.out hf]
        have hfb : fullB s.L = true := by unfold fullB; simpa using hf
        clear hf
        go_enter Tryz.func27, Tryz.ntmps27
        go_wp2_with (first | (go_at_call 68; refine (who_any 1 _).mono ?_; rintro e w1 ⟨rfl, rfl⟩) | (go_at_call 69; refine (kfull p.gw v0 s.L _ HZ0.out).mono ?_; rintro e w1 ⟨rfl, rfl⟩; rw [hfb]))
        go_ret
        exact ⟨rfl, Leaves.same H.out (Below.refl _ _)⟩
      · rw [HE.out.1, if_neg hf, HS.out hf, errV_zero]
        have hfb : fullB s.L = false := by unfold fullB; simpa using hf
        obtain ⟨S2, hS2, up⟩ := HO.out.at_ 3 rfl
        have hme : (s.e1).made.length ≤ 1000 := hm
        have hokE : EnOk s.e1 := by obtain ⟨q, hq⟩ := endT_open hS2; exact hq.ok
        have hpk : s.e1.packet.length ≤ 177 := (hokE.packetOk (by omega)).2.2
        have HSE : Hid (Go.Proofs.YtmfbaijbigodkaaGreatDoor.sendE s.L 0 ⟨s.e1.packet.toArray⟩ = 0 ∧ sendL s.L 0 ⟨s.e1.packet.toArray⟩ = s.L ++ [⟨0, ⟨s.e1.packet.toArray⟩⟩]) := Lib.hid (by
          have e0 : Go.Proofs.YtmfbaijbigodkaaGreatDoor.sendE s.L 0 ⟨s.e1.packet.toArray⟩ = 0 := by
            unfold Go.Proofs.YtmfbaijbigodkaaGreatDoor.sendE
            rw [if_pos (by decide), if_neg]
            rintro (h1 | h1)
            · exact hf h1
            · have : (200 : Nat) < s.e1.packet.toArray.size := h1
              rw [List.size_toArray] at this
              omega
          exact ⟨e0, by unfold sendL; rw [if_pos e0]⟩)
        have HOK2 : Hid (TkOk { s with e1 := s.e1.make, L := s.L ++ [⟨0, ⟨s.e1.packet.toArray⟩⟩] }) := Lib.hid (by
          refine ⟨by show (s.L ++ [_]).length ≤ 40; rw [List.length_append]; have := HOK.out.1; simp; omega, fun l hl => ?_⟩
          rcases List.mem_append.1 hl with h | h
          · exact HOK.out.2 l h
          · rw [List.mem_singleton.1 h]
            refine ⟨rfl, ?_⟩
            show s.e1.packet.toArray.size ≤ 200
            rw [List.size_toArray]; omega)
        have HSZ : Hid ((ByteArray.mk s.e1.packet.toArray).size ≤ 9223372036854775807) := Lib.hid (by show s.e1.packet.toArray.size ≤ _; rw [List.size_toArray]; omega)
        clear hf hokE hpk
        go_enter Tryz.func27, Tryz.ntmps27
        go_wp2_with (first | (go_at_call 68; refine (who_any 1 _).mono ?_; rintro e w1 ⟨rfl, rfl⟩) | (go_at_call 69; refine (kfull p.gw v0 s.L _ HZ0.out).mono ?_; rintro e w1 ⟨rfl, rfl⟩; rw [hfb]))
        go_region_law (first
          | (go_simp; go_at_call 15; refine (emake p.g1 s.e1 _ S2 ((endT p.g1 s.e1).later hS2 (show Since w _ from (by refine Since.out ?_; repeat (first | with_reducible assumption | with_reducible exact Since.refl _ | with_reducible refine Since.later ?_ (by with_reducible assumption) | with_reducible refine Since.only ?_ (by with_reducible assumption) (by first | assumption | omega | (simp; done) | (simp; omega)) | with_reducible refine Since.alloc ?_ _ | with_reducible refine Since.drewN ?_ _ | with_reducible refine Since.drew ?_ | with_reducible refine Since.set ?_ (by first | assumption | omega | (simp; done) | (simp; omega)) _)))) (HK.out.later (show Since w _ from (by refine Since.out ?_; repeat (first | with_reducible assumption | with_reducible exact Since.refl _ | with_reducible refine Since.later ?_ (by with_reducible assumption) | with_reducible refine Since.only ?_ (by with_reducible assumption) (by first | assumption | omega | (simp; done) | (simp; omega)) | with_reducible refine Since.alloc ?_ _ | with_reducible refine Since.drewN ?_ _ | with_reducible refine Since.drew ?_ | with_reducible refine Since.set ?_ (by first | assumption | omega | (simp; done) | (simp; omega)) _)))) hme).mono ?_; rintro e w1 ⟨rfl, hl⟩; have HW1 := Lib.hid (up _ _ (Leaves.drew hl)); obtain ⟨S1', ⟨v1, hz1, hS1'⟩, up1⟩ := HW1.out.at_ 1 rfl; have d0 : w1.cell? ⟨g, 0, none⟩ = some (.pointer (some ⟨p.gw, 0, none⟩)) := (HW1.out.blk 0 rfl).cell 0; have ld := (HW1.out.blk 0 rfl).lt)
          | (go_simp; go_at_call 70; refine (ksend p.gw v1 s.L 0 ⟨s.e1.packet.toArray⟩ _ hz1 HSZ.out).mono ?_; rintro e w2 ⟨rfl, hk⟩; rw [HSE.out.1, errV_zero]; rw [HSE.out.2] at hk))
        all_goals
          go_wp2_with fail
          go_ret
          refine ⟨rfl, talkT_close (p := p) HOK2.out ?_⟩
          have h9 := up1 _ _ (by rw [hS1']; exact linkT_left hk)
          exact h9
set_option maxHeartbeats 3200000 in
theorem tcome (g : Nat) (s : TkS) (i : Int) (w : World) (S : List Nat) (h : (talkT g s).is w S) (hT : ∀ X, Out w X S → KTab X ∧ CTab X) (hm0 : s.e0.made.length ≤ 1000) (hm1 : s.e1.made.length ≤ 1000) :
    Calls Tryz.prog 29 #[.pointer (some ⟨g, 0, none⟩), .int .i64 i] w fun e w' => e = .returned (errV (s.comeE i)) ∧ Leaves w w' S (talkT g (s.come i)) := by
  have H := Lib.hid h
  have HTT := Lib.hid hT
  obtain ⟨p, ok, ho⟩ := talkT_open h
  have HOK := Lib.hid ok
  have HO := Lib.hid ho
  have c0 : w.cell? ⟨g, 0, none⟩ = some (.pointer (some ⟨p.gw, 0, none⟩)) := (ho.blk 0 rfl).cell 0
  have lg := (ho.blk 0 rfl).lt
  obtain ⟨S1, ⟨v1, hz1, hS1⟩, up1⟩ := HO.out.at_ 1 rfl
  have HGV := Lib.hid (kgive p.gw v1 s.L i w hz1)
  clear h ho ok hT hz1
  cases hb : isB s.L i with
  | false =>
    have HE : Hid (s.comeE i = 1 ∧ s.come i = s ∧ giveE s.L i = 1) := Lib.hid ⟨by unfold TkS.comeE; rw [hb]; rfl, by unfold TkS.come; rw [hb]; rfl, by unfold giveE; rw [hb]; rfl⟩
    have HGL : Hid (giveL s.L i = s.L) := Lib.hid (by unfold giveL; rw [hb]; rfl)
    rw [HE.out.1, HE.out.2.1]
    rw [HE.out.2.2, HGL.out] at HGV
    go_enter Tryz.func29, Tryz.ntmps29
    go_wp2_with fail
    refine HGV.out.mono ?_
    rintro e w1 ⟨rfl, hk⟩
    rw [errV_pos (by decide)]
    have HL := Lib.hid (talkT_close (p := p) HOK.out (up1 _ _ (by rw [hS1]; exact linkT_left hk)))
    go_wp2_with fail
    go_ret
    exact ⟨rfl, HL.out⟩
  | true =>
    have hmem := giveD_mem hb
    obtain ⟨hto, hsz⟩ := HOK.out.2 _ hmem
    have HE : Hid (s.comeE i = (s.e (giveD s.L i).too).takeE (giveD s.L i).b.data.toList ∧ s.come i = { s.set (giveD s.L i).too ((s.e (giveD s.L i).too).take (giveD s.L i).b.data.toList) with L := giveL s.L i } ∧ giveE s.L i = 0) := Lib.hid ⟨by unfold TkS.comeE; rw [if_pos hb], by unfold TkS.come; rw [if_pos hb], by unfold giveE; rw [if_pos hb]⟩
    rw [HE.out.2.2, errV_zero] at HGV
    rw [HE.out.1, HE.out.2.1]
    obtain ⟨⟨tz, b⟩, hd⟩ : ∃ d, giveD s.L i = d := ⟨_, rfl⟩
    rw [hd] at hto hsz HGV
    rw [hd]
    dsimp only at hto hsz HGV ⊢
    have HGL := Lib.hid (giveL_sub (L := s.L) (i := i))
    have hbz : b.size ≤ 9223372036854775000 := by omega
    clear hmem hd HE hb hsz
    rcases whoB_iff.1 hto with rfl | rfl
    · clear hto
      go_enter Tryz.func29, Tryz.ntmps29
      go_wp2_with fail
      refine HGV.out.mono ?_
      rintro e w1 ⟨rfl, hk⟩
      have HW1 := Lib.hid (up1 _ (linkT p.gw (giveL s.L i)) (by rw [hS1]; exact linkT_left hk))
      have d1 : w1.cell? ⟨g, 1, none⟩ = some (.pointer (some ⟨p.g0, 0, none⟩)) := (HW1.out.blk 0 rfl).cell 1
      have ld := (HW1.out.blk 0 rfl).lt
      obtain ⟨S2, hS2, up2⟩ := HW1.out.at_ 2 rfl
      have hK1 : KTab w1 ∧ CTab w1 := HTT.out w1 HW1.out.out
      have HT := Lib.hid (etake p.g0 s.e0 b w1 S2 hS2 hK1.1 hK1.2 hm0 hbz)
      clear hk hS2 hK1
      go_wp2_with (go_at_call 17; refine HT.out.mono ?_; rintro e w2 ⟨rfl, hl⟩)
      go_ret
      exact ⟨rfl, talkT_close (p := p) ⟨Nat.le_trans HGL.out.1 HOK.out.1, fun l hl => HOK.out.2 l (HGL.out.2 l hl)⟩ (up2 _ _ hl)⟩
    · clear hto
      go_enter Tryz.func29, Tryz.ntmps29
      go_wp2_with fail
      refine HGV.out.mono ?_
      rintro e w1 ⟨rfl, hk⟩
      have HW1 := Lib.hid (up1 _ (linkT p.gw (giveL s.L i)) (by rw [hS1]; exact linkT_left hk))
      have d1 : w1.cell? ⟨g, 2, none⟩ = some (.pointer (some ⟨p.g1, 0, none⟩)) := (HW1.out.blk 0 rfl).cell 2
      have ld := (HW1.out.blk 0 rfl).lt
      obtain ⟨S2, hS2, up2⟩ := HW1.out.at_ 3 rfl
      have hK1 : KTab w1 ∧ CTab w1 := HTT.out w1 HW1.out.out
      have HT := Lib.hid (etake p.g1 s.e1 b w1 S2 hS2 hK1.1 hK1.2 hm1 hbz)
      clear hk hS2 hK1
      go_wp2_with (go_at_call 17; refine HT.out.mono ?_; rintro e w2 ⟨rfl, hl⟩)
      go_ret
      exact ⟨rfl, talkT_close (p := p) ⟨Nat.le_trans HGL.out.1 HOK.out.1, fun l hl => HOK.out.2 l (HGL.out.2 l hl)⟩ (up2 _ _ hl)⟩
end Go.Proofs.YtmfbaijbigodkaaGreatDoor

/-! More contracts of package talk: Write, Lose, Twice. Condition: the blocks hold a talk as New and the calls leave it. -/
namespace Go.Proofs.YtmfbaijbigodkaaGreatDoor
open Go.ChangeShapes Go.WideShapes Go.ChangeAt Go.RowKit
set_option linter.unusedVariables false

/-- Write -/
def TkS.writeE (s : TkS) (who : Int) (d : ByteArray) : Int := if whoB who = true then (s.e who).writeE d else 1
def TkS.write (s : TkS) (who : Int) (d : ByteArray) : TkS := if whoB who = true then s.set who ((s.e who).write d) else s
set_option maxHeartbeats 1600000 in
theorem twrite (g : Nat) (s : TkS) (who : Int) (d : ByteArray) (w : World) (S : List Nat) (h : (talkT g s).is w S) (hd : d.size ≤ 9223372036854775000) :
    Calls Tryz.prog 25 #[.pointer (some ⟨g, 0, none⟩), .int .i64 who, .string d] w fun e w' => e = .returned (errV (s.writeE who d)) ∧ Leaves w w' S (talkT g (s.write who d)) := by
  have H := Lib.hid h
  obtain ⟨p, ok, ho⟩ := talkT_open h
  have HOK := Lib.hid ok
  have HO := Lib.hid ho
  have c1 : w.cell? ⟨g, 1, none⟩ = some (.pointer (some ⟨p.g0, 0, none⟩)) := (ho.blk 0 rfl).cell 1
  have c2 : w.cell? ⟨g, 2, none⟩ = some (.pointer (some ⟨p.g1, 0, none⟩)) := (ho.blk 0 rfl).cell 2
  have lg := (ho.blk 0 rfl).lt
  clear h ho ok
  cases hw : whoB who with
  | false =>
    have HE : Hid (s.writeE who d = 1 ∧ s.write who d = s) := Lib.hid ⟨by unfold TkS.writeE; rw [hw]; rfl, by unfold TkS.write; rw [hw]; rfl⟩
    rw [HE.out.1, HE.out.2]
    go_enter Tryz.func25, Tryz.ntmps25
    go_wp2_with (go_at_call 68; refine (who_any who _).mono ?_; rintro e w1 ⟨rfl, rfl⟩; rw [hw])
    go_ret
    exact ⟨rfl, Leaves.same H.out (Below.refl _ _)⟩
  | true =>
    rcases whoB_iff.1 hw with rfl | rfl
    · have HE : Hid (s.writeE 0 d = s.e0.writeE d ∧ s.write 0 d = { s with e0 := s.e0.write d }) := Lib.hid ⟨rfl, rfl⟩
      rw [HE.out.1, HE.out.2]
      obtain ⟨S2, hS2, up⟩ := HO.out.at_ 2 rfl
      clear hw
      go_enter Tryz.func25, Tryz.ntmps25
      go_wp2_with (first | (go_at_call 68; refine (who_any 0 _).mono ?_; rintro e w1 ⟨rfl, rfl⟩) | (go_at_call 11; refine (ewrite p.g0 s.e0 d _ S2 hS2 hd).mono ?_; rintro e w1 ⟨rfl, hl⟩))
      go_ret
      exact ⟨rfl, talkT_close (p := p) HOK.out (up _ _ hl)⟩
    · have HE : Hid (s.writeE 1 d = s.e1.writeE d ∧ s.write 1 d = { s with e1 := s.e1.write d }) := Lib.hid ⟨rfl, rfl⟩
      rw [HE.out.1, HE.out.2]
      obtain ⟨S3, hS3, up⟩ := HO.out.at_ 3 rfl
      clear hw
      go_enter Tryz.func25, Tryz.ntmps25
      go_wp2_with (first | (go_at_call 68; refine (who_any 1 _).mono ?_; rintro e w1 ⟨rfl, rfl⟩) | (go_at_call 11; refine (ewrite p.g1 s.e1 d _ S3 hS3 hd).mono ?_; rintro e w1 ⟨rfl, hl⟩))
      go_ret
      exact ⟨rfl, talkT_close (p := p) HOK.out (up _ _ hl)⟩
set_option maxHeartbeats 1600000 in
theorem tklose (g : Nat) (s : TkS) (i : Int) (w : World) (S : List Nat) (h : (talkT g s).is w S) :
    Calls Tryz.prog 32 #[.pointer (some ⟨g, 0, none⟩), .int .i64 i] w fun e w' => e = .returned (errV (giveE s.L i)) ∧ Leaves w w' S (talkT g { s with L := giveL s.L i }) := by
  obtain ⟨p, ok, ho⟩ := talkT_open h
  have HOK := Lib.hid ok
  have HO := Lib.hid ho
  have c0 : w.cell? ⟨g, 0, none⟩ = some (.pointer (some ⟨p.gw, 0, none⟩)) := (ho.blk 0 rfl).cell 0
  have lg := (ho.blk 0 rfl).lt
  obtain ⟨S1, ⟨v, hz, hS1⟩, up⟩ := HO.out.at_ 1 rfl
  have HZ := Lib.hid hz
  have HGL := Lib.hid (giveL_sub (L := s.L) (i := i))
  clear h ho hz ok
  go_enter Tryz.func32, Tryz.ntmps32
  go_wp2_with (go_at_call 72; refine (klose p.gw v s.L i _ HZ.out).mono ?_; rintro e w1 ⟨rfl, hk⟩)
  go_ret
  exact ⟨rfl, talkT_close (p := p) ⟨Nat.le_trans HGL.out.1 HOK.out.1, fun l hl => HOK.out.2 l (HGL.out.2 l hl)⟩ (up _ _ (by rw [hS1]; exact linkT_left hk))⟩
theorem twice_ok {L : List Let} {i : Int} (h : L.length ≤ 40 ∧ ∀ l ∈ L, whoB l.too = true ∧ l.b.size ≤ 200) : (twiceL L i).length ≤ 40 ∧ ∀ l ∈ twiceL L i, whoB l.too = true ∧ l.b.size ≤ 200 := by
  unfold twiceL twiceE
  cases hb : isB L i with
  | false => exact h
  | true =>
    obtain ⟨h0, h1⟩ := isB_iff.1 hb
    by_cases h40 : L.length = 40
    · rw [if_pos rfl, if_pos h40, if_neg (by decide)]; exact h
    · rw [if_pos rfl, if_neg h40, if_pos rfl]
      refine ⟨by rw [List.length_append]; have := h.1; simp; omega, fun l hl => ?_⟩
      rcases List.mem_append.1 hl with hm | hm
      · exact h.2 l hm
      · rw [List.mem_singleton.1 hm]
        have hl : i.toNat < L.length := by omega
        rw [show L.getD i.toNat noLet = L[i.toNat] by simp [List.getD, List.getElem?_eq_getElem hl]]
        exact h.2 _ (List.getElem_mem _)
set_option maxHeartbeats 1600000 in
theorem tktwice (g : Nat) (s : TkS) (i : Int) (w : World) (S : List Nat) (h : (talkT g s).is w S) :
    Calls Tryz.prog 33 #[.pointer (some ⟨g, 0, none⟩), .int .i64 i] w fun e w' => e = .returned (errV (twiceE s.L i)) ∧ Leaves w w' S (talkT g { s with L := twiceL s.L i }) := by
  obtain ⟨p, ok, ho⟩ := talkT_open h
  have HOK := Lib.hid ok
  have HO := Lib.hid ho
  have c0 : w.cell? ⟨g, 0, none⟩ = some (.pointer (some ⟨p.gw, 0, none⟩)) := (ho.blk 0 rfl).cell 0
  have lg := (ho.blk 0 rfl).lt
  obtain ⟨S1, ⟨v, hz, hS1⟩, up⟩ := HO.out.at_ 1 rfl
  have HZ := Lib.hid hz
  clear h ho hz ok
  go_enter Tryz.func33, Tryz.ntmps33
  go_wp2_with (go_at_call 73; refine (ktwice p.gw v s.L i _ HZ.out).mono ?_; rintro e w1 ⟨rfl, hk⟩)
  go_ret
  exact ⟨rfl, talkT_close (p := p) (twice_ok HOK.out) (up _ _ (by rw [hS1]; exact linkT_left hk))⟩
end Go.Proofs.YtmfbaijbigodkaaGreatDoor

/-! DERIVED: THE SHELF's CONTRACTS AT THIS DUMP, IN PLAIN WORDS (tools/lay-plain.mjs out of 'TryzShelf.lean', which tools/lay-shelf.mjs wrote): THE SAME DECLARATIONS UNDER THE SAME NAMES: 'import', 'namespace', 'open', 'def', 'theorem' AND NOTHING ELSE: no command of the shelf's: FOR A HAND-IN. Each laying: the table of numbers ('.._ren') and one theorem, a field a fact of the dump's own or the kernel's comparison; each contract: ONE APPLICATION. -/
namespace Go.Proofs
open Go.Shelf
def Tryz.lays169_ren : Go.Shelf.Ren := ⟨fun | 169 => 79 | n => n, fun | 70 => 130 | 9 => 9 | 0 => 0 | 72 => 133 | 37 => 131 | 127 => 177 | 3 => 3 | 5 => 5 | n => n, fun | n => n⟩
theorem Tryz.lays169 : Go.Proofs.Lays.n169 Tryz.prog Tryz.lays169_ren := {
  mixed := by kernel_rfl
  f169 := Tryz.func79.trans (congrArg some (by kernel_rfl))
  t0 := Tryz.underlying0
  a0 := Tryz.isAgg0
  z0 := Tryz.sizeOf0
  v0 := Tryz.zeroValue0
  t3 := Tryz.underlying3
  a3 := Tryz.isAgg3
  z3 := Tryz.sizeOf3
  v3 := Tryz.zeroValue3
  t9 := Tryz.underlying9
  a9 := Tryz.isAgg9
  z9 := Tryz.sizeOf9
  v9 := Tryz.zeroValue9
  t37 := Tryz.underlying131
  a37 := Tryz.isAgg131
  z37 := Tryz.sizeOf131
  v37 := Tryz.zeroValue131
  t70 := Tryz.underlying130
  a70 := Tryz.isAgg130
  z70 := Tryz.sizeOf130
  v70 := Tryz.zeroValue130
  t72 := Tryz.underlying133
  a72 := Tryz.isAgg133
  z72 := Tryz.sizeOf133
  v72 := Tryz.zeroValue133
  t127 := Tryz.underlying177
  a127 := Tryz.isAgg177
  z127 := Tryz.sizeOf177
  v127 := Tryz.zeroValue177 }
theorem Tryz.Builder_Extra_169 : Builder.Extra Tryz.prog Tryz.lays169_ren := {
  sizeBuilder := by kernel_rfl
  liesBuilder := by kernel_rfl
  t5 := Tryz.underlying5
  a5 := Tryz.isAgg5
  z5 := Tryz.sizeOf5
  v5 := Tryz.zeroValue5
  infoByte := by kernel_rfl
  cellsByte := by kernel_rfl
  sizeByte := by kernel_rfl
  neB5 := by decide }
def Tryz.lays156_ren : Go.Shelf.Ren := ⟨fun | 156 => 183 | 165 => 196 | 166 => 76 | 169 => 79 | 240 => 113 | 241 => 208 | 276 => 140 | 277 => 217 | n => n, fun | 31 => 24 | 9 => 9 | 3 => 3 | 4 => 4 | 0 => 0 | 20 => 20 | 72 => 133 | 76 => 89 | 70 => 130 | 37 => 131 | 75 => 27 | 127 => 177 | 164 => 178 | 5 => 5 | 80 => 40 | n => n, fun | n => n⟩
theorem Tryz.lays156 : Go.Proofs.Lays.n156 Tryz.prog Tryz.lays156_ren := {
  mixed := by kernel_rfl
  f156 := Tryz.func183.trans (congrArg some (by kernel_rfl))
  f165 := Tryz.func196.trans (congrArg some (by kernel_rfl))
  f166 := Tryz.func76.trans (congrArg some (by kernel_rfl))
  f169 := Tryz.func79.trans (congrArg some (by kernel_rfl))
  f240 := Tryz.func113.trans (congrArg some (by kernel_rfl))
  f241 := Tryz.func208.trans (congrArg some (by kernel_rfl))
  f276 := Tryz.func140.trans (congrArg some (by kernel_rfl))
  f277 := Tryz.func217.trans (congrArg some (by kernel_rfl))
  t0 := Tryz.underlying0
  a0 := Tryz.isAgg0
  z0 := Tryz.sizeOf0
  v0 := Tryz.zeroValue0
  t3 := Tryz.underlying3
  a3 := Tryz.isAgg3
  z3 := Tryz.sizeOf3
  v3 := Tryz.zeroValue3
  t4 := Tryz.underlying4
  a4 := Tryz.isAgg4
  z4 := Tryz.sizeOf4
  v4 := Tryz.zeroValue4
  t9 := Tryz.underlying9
  a9 := Tryz.isAgg9
  z9 := Tryz.sizeOf9
  v9 := Tryz.zeroValue9
  t20 := Tryz.underlying20
  a20 := Tryz.isAgg20
  z20 := Tryz.sizeOf20
  v20 := Tryz.zeroValue20
  t31 := Tryz.underlying24
  a31 := Tryz.isAgg24
  z31 := Tryz.sizeOf24
  v31 := Tryz.zeroValue24
  t37 := Tryz.underlying131
  a37 := Tryz.isAgg131
  z37 := Tryz.sizeOf131
  v37 := Tryz.zeroValue131
  t70 := Tryz.underlying130
  a70 := Tryz.isAgg130
  z70 := Tryz.sizeOf130
  v70 := Tryz.zeroValue130
  t72 := Tryz.underlying133
  a72 := Tryz.isAgg133
  z72 := Tryz.sizeOf133
  v72 := Tryz.zeroValue133
  t75 := Tryz.underlying27
  a75 := Tryz.isAgg27
  z75 := Tryz.sizeOf27
  v75 := Tryz.zeroValue27
  t76 := Tryz.underlying89
  a76 := Tryz.isAgg89
  z76 := Tryz.sizeOf89
  v76 := Tryz.zeroValue89
  t127 := Tryz.underlying177
  a127 := Tryz.isAgg177
  z127 := Tryz.sizeOf177
  v127 := Tryz.zeroValue177
  t164 := Tryz.underlying178
  a164 := Tryz.isAgg178
  z164 := Tryz.sizeOf178
  v164 := Tryz.zeroValue178 }
theorem Tryz.Builder_Extra_156 : Builder.Extra Tryz.prog Tryz.lays156_ren := {
  sizeBuilder := by kernel_rfl
  liesBuilder := by kernel_rfl
  t5 := Tryz.underlying5
  a5 := Tryz.isAgg5
  z5 := Tryz.sizeOf5
  v5 := Tryz.zeroValue5
  infoByte := by kernel_rfl
  cellsByte := by kernel_rfl
  sizeByte := by kernel_rfl
  neB5 := by decide }
open Go.RowKit in
/-- strings.Join: "Join concatenates the elements of its first argument to create a single string. The separator string sep is placed between elements in the resulting string.": HOWEVER MANY ELEMENTS. Below the heap's end the world is as it was. (LAID: no walk: one application.) -/
theorem Tryz.strings_Join (bk o c : Nat) (xs : List ByteArray) (sep : ByteArray) (w : World) (hcells : ∀ (j : Nat) x, xs[j]? = some x → w.cell? ⟨bk, o + j, none⟩ = some (.string x)) (hbk : bk < w.heap.size) (hN : xs.length ≤ 140737488355328) (hcap : xs.length ≤ c) (hlen : (Lib.join (xs.map (·.data.toList)) sep.data.toList).length ≤ 140737488355328) :
    Calls Tryz.prog 183 #[.slice (some ⟨bk, o, none⟩) xs.length c, .string sep] w fun e w' => e = .returned (.string ⟨(Lib.join (xs.map (·.data.toList)) sep.data.toList).toArray⟩) ∧ Below w.heap.size w w' := Any.strings_Join Tryz.lays156 Tryz.Builder_Extra_156 bk o c xs sep w hcells hbk hN hcap hlen
def Tryz.lays137_ren : Go.Shelf.Ren := ⟨fun | 137 => 112 | 217 => 139 | 266 => 158 | n => n, fun | 9 => 9 | 5 => 5 | 3 => 3 | n => n, fun | n => n⟩
theorem Tryz.lays137 : Go.Proofs.Lays.n137 Tryz.prog Tryz.lays137_ren := {
  mixed := by kernel_rfl
  f137 := Tryz.func112.trans (congrArg some (by kernel_rfl))
  f217 := Tryz.func139.trans (congrArg some (by kernel_rfl))
  f266 := Tryz.func158.trans (congrArg some (by kernel_rfl))
  t3 := Tryz.underlying3
  a3 := Tryz.isAgg3
  z3 := Tryz.sizeOf3
  v3 := Tryz.zeroValue3
  t5 := Tryz.underlying5
  a5 := Tryz.isAgg5
  z5 := Tryz.sizeOf5
  v5 := Tryz.zeroValue5
  t9 := Tryz.underlying9
  a9 := Tryz.isAgg9
  z9 := Tryz.sizeOf9
  v9 := Tryz.zeroValue9 }
open Go.RowKit in
/-- strings.IndexByte: "IndexByte returns the index of the first instance of c in s, or -1 if c is not present in s.": IT RETURNS 'Lib.indexByte s c'; the world is as it was. (LAID: no walk: one application.) -/
theorem Tryz.strings_IndexByte (s : ByteArray) (c : Int) (w : World) :
    Calls Tryz.prog 112 #[.string s, .int .u8 c] w fun e w' => e = .returned (.int .i64 (Lib.indexByte s.data.toList c.toNat.toUInt8)) ∧ w' = w := Any.strings_IndexByte Tryz.lays137 s c w
open Go.RowKit in
/-- (*strings.Builder).String: "String returns the accumulated string.": WHATEVER THE BUILDER HOLDS; THE FORM '_k': OVER 'Lib.IsBuilderF' (a builder that 'String()' may have read), AND WITH THE FRAME THAT REACHES ABOVE THE BUILDER: 'Lib.OthersKept': every block that is not b and is no row of uint8's stands as it stood: the iterator of a range among them. (LAID: no walk: one application.) -/
theorem Tryz.Builder_String_any_k (B b : Nat) (l : List UInt8) (w : World) (h : Lib.IsBuilderF 133 5 B b (Lib.byteCells l) w) (hBw : B ≤ w.heap.size) :
    Calls Tryz.prog 79 #[.pointer (some ⟨b, 0, none⟩)] w fun e w' => e = .returned (.string ⟨l.toArray⟩) ∧ (Lib.IsBuilderF 133 5 B b (Lib.byteCells l) w' ∧ Below B w w' ∧ Lib.OthersKept 5 (some b) w w') := Any.Builder_String_any_k Tryz.lays169 Tryz.Builder_Extra_169 B b l w h hBw
def Tryz.laysM171_ren : Go.Shelf.Ren := ⟨fun | 171 => 165 | 243 => 184 | 246 => 197 | 283 => 209 | 284 => 210 | 285 => 211 | 286 => 212 | 129 => 178 | 317 => 218 | 318 => 219 | 319 => 220 | 320 => 221 | 337 => 224 | 338 => 225 | n => n, fun | 3 => 3 | 9 => 9 | 2 => 2 | 4 => 4 | 171 => 282 | 0 => 0 | 53 => 258 | 37 => 131 | 5 => 5 | 173 => 284 | 212 => 298 | 51 => 256 | 20 => 20 | 213 => 299 | 46 => 193 | 232 => 304 | 233 => 305 | n => n, fun | 17 => 9 | 18 => 10 | 19 => 11 | n => n⟩
theorem Tryz.laysM171 : Go.Proofs.LaysM.n171 Tryz.prog Tryz.laysM171_ren := {
  mixed := by kernel_rfl
  f129 := Tryz.func178.trans (congrArg some (by kernel_rfl))
  f171 := Tryz.func165.trans (congrArg some (by kernel_rfl))
  f243 := Tryz.func184.trans (congrArg some (by kernel_rfl))
  f246 := Tryz.func197.trans (congrArg some (by kernel_rfl))
  f283 := Tryz.func209.trans (congrArg some (by kernel_rfl))
  f284 := Tryz.func210.trans (congrArg some (by kernel_rfl))
  f285 := Tryz.func211.trans (congrArg some (by kernel_rfl))
  f286 := Tryz.func212.trans (congrArg some (by kernel_rfl))
  f317 := Tryz.func218.trans (congrArg some (by kernel_rfl))
  f318 := Tryz.func219.trans (congrArg some (by kernel_rfl))
  f319 := Tryz.func220.trans (congrArg some (by kernel_rfl))
  f320 := Tryz.func221.trans (congrArg some (by kernel_rfl))
  f337 := Tryz.func224.trans (congrArg some (by kernel_rfl))
  f338 := Tryz.func225.trans (congrArg some (by kernel_rfl))
  t0 := Tryz.underlying0
  a0 := Tryz.isAgg0
  z0 := Tryz.sizeOf0
  v0 := Tryz.zeroValue0
  t2 := Tryz.underlying2
  a2 := Tryz.isAgg2
  z2 := Tryz.sizeOf2
  v2 := Tryz.zeroValue2
  t3 := Tryz.underlying3
  a3 := Tryz.isAgg3
  z3 := Tryz.sizeOf3
  v3 := Tryz.zeroValue3
  t4 := Tryz.underlying4
  a4 := Tryz.isAgg4
  z4 := Tryz.sizeOf4
  v4 := Tryz.zeroValue4
  t5 := Tryz.underlying5
  a5 := Tryz.isAgg5
  z5 := Tryz.sizeOf5
  v5 := Tryz.zeroValue5
  t9 := Tryz.underlying9
  a9 := Tryz.isAgg9
  z9 := Tryz.sizeOf9
  v9 := Tryz.zeroValue9
  t20 := Tryz.underlying20
  a20 := Tryz.isAgg20
  z20 := Tryz.sizeOf20
  v20 := Tryz.zeroValue20
  t37 := Tryz.underlying131
  a37 := Tryz.isAgg131
  z37 := Tryz.sizeOf131
  v37 := Tryz.zeroValue131
  t46 := Tryz.underlying193
  a46 := Tryz.isAgg193
  z46 := Tryz.sizeOf193
  v46 := Tryz.zeroValue193
  t51 := Tryz.underlying256
  a51 := Tryz.isAgg256
  z51 := Tryz.sizeOf256
  v51 := Tryz.zeroValue256
  t53 := Tryz.underlying258
  a53 := Tryz.isAgg258
  z53 := Tryz.sizeOf258
  v53 := Tryz.zeroValue258
  t171 := Tryz.underlying282
  a171 := Tryz.isAgg282
  z171 := Tryz.sizeOf282
  v171 := Tryz.zeroValue282
  t173 := Tryz.underlying284
  a173 := Tryz.isAgg284
  z173 := Tryz.sizeOf284
  v173 := Tryz.zeroValue284
  t212 := Tryz.underlying298
  a212 := Tryz.isAgg298
  z212 := Tryz.sizeOf298
  v212 := Tryz.zeroValue298
  t213 := Tryz.underlying299
  a213 := Tryz.isAgg299
  z213 := Tryz.sizeOf299
  t232 := Tryz.underlying304
  a232 := Tryz.isAgg304
  z232 := Tryz.sizeOf304
  v232 := Tryz.zeroValue304
  t233 := Tryz.underlying305
  a233 := Tryz.isAgg305
  z233 := Tryz.sizeOf305
  v233 := Tryz.zeroValue305
  g17 := by kernel_rfl
  g18 := by kernel_rfl
  g19 := by kernel_rfl
  i0 := by kernel_rfl
  i2 := by kernel_rfl
  i3 := by kernel_rfl
  i4 := by kernel_rfl
  i5 := by kernel_rfl
  i9 := by kernel_rfl
  i20 := by kernel_rfl
  i37 := by kernel_rfl
  i46 := by kernel_rfl
  i51 := by kernel_rfl
  i53 := by kernel_rfl
  i171 := by kernel_rfl
  i173 := by kernel_rfl
  i212 := by kernel_rfl
  i232 := by kernel_rfl
  i233 := by kernel_rfl
  m17 := by kernel_rfl
  m18 := by kernel_rfl
  m19 := by kernel_rfl }
open Go.RowKit Go.Sort Go.Lib in
/-- strconv.Itoa: "Itoa is equivalent to FormatInt(int64(i), 10).": i's DECIMAL NUMERAL ('Lib.itoa': a '-' where i is negative, then the digits), FOR EVERY int. The world behind the call: the world before it, new blocks behind the heap (the library's 'var a [24]byte'), draws. (LAID: no walk: one application.) -/
theorem Tryz.strconv_Itoa (n : Int) (h0 : -9223372036854775808 ≤ n) (h1 : n ≤ 9223372036854775807) (w : World) (htab : Lib.TabIs Tryz.prog w "internal/strconv.uint64pow10" .u64 Lib.pow10Tab) :
    Calls Tryz.prog 165 #[.int .i64 n] w fun e w' => e = .returned (.string ⟨(Lib.itoa n).toArray⟩) ∧ ∃ k os, w' = grow (w.drewN k) os := Any.strconv_Itoa Tryz.laysM171 n h0 h1 w htab
def Tryz.laysC172_ren : Go.Shelf.Ren := ⟨fun | 172 => 182 | 244 => 194 | 245 => 195 | 247 => 203 | 279 => 204 | 280 => 205 | 281 => 206 | 282 => 207 | 287 => 214 | 316 => 215 | 171 => 165 | 205 => 216 | 321 => 222 | 322 => 223 | 243 => 184 | 246 => 197 | 283 => 209 | 284 => 210 | 285 => 211 | 286 => 212 | 129 => 178 | 317 => 218 | 318 => 219 | 319 => 220 | 320 => 221 | 337 => 224 | 338 => 225 | n => n, fun | 9 => 9 | 3 => 3 | 75 => 27 | 76 => 89 | 4 => 4 | 5 => 5 | 167 => 276 | 37 => 131 | 0 => 0 | 85 => 277 | 2 => 2 | 168 => 279 | 53 => 258 | 175 => 292 | 46 => 193 | 210 => 295 | 127 => 177 | 145 => 303 | 143 => 301 | 21 => 21 | 171 => 282 | 173 => 284 | 212 => 298 | 51 => 256 | 20 => 20 | 213 => 299 | 232 => 304 | 233 => 305 | 80 => 40 | n => n, fun | 15 => 7 | 16 => 8 | 17 => 9 | 18 => 10 | 19 => 11 | n => n⟩
theorem Tryz.laysC172 : Go.Proofs.LaysC.n172 Tryz.prog Tryz.laysC172_ren := {
  mixed := by kernel_rfl
  f129 := Tryz.func178.trans (congrArg some (by kernel_rfl))
  f171 := Tryz.func165.trans (congrArg some (by kernel_rfl))
  f172 := Tryz.func182.trans (congrArg some (by kernel_rfl))
  f205 := Tryz.func216.trans (congrArg some (by kernel_rfl))
  f243 := Tryz.func184.trans (congrArg some (by kernel_rfl))
  f244 := Tryz.func194.trans (congrArg some (by kernel_rfl))
  f245 := Tryz.func195.trans (congrArg some (by kernel_rfl))
  f246 := Tryz.func197.trans (congrArg some (by kernel_rfl))
  f247 := Tryz.func203.trans (congrArg some (by kernel_rfl))
  f279 := Tryz.func204.trans (congrArg some (by kernel_rfl))
  f280 := Tryz.func205.trans (congrArg some (by kernel_rfl))
  f281 := Tryz.func206.trans (congrArg some (by kernel_rfl))
  f282 := Tryz.func207.trans (congrArg some (by kernel_rfl))
  f283 := Tryz.func209.trans (congrArg some (by kernel_rfl))
  f284 := Tryz.func210.trans (congrArg some (by kernel_rfl))
  f285 := Tryz.func211.trans (congrArg some (by kernel_rfl))
  f286 := Tryz.func212.trans (congrArg some (by kernel_rfl))
  f287 := Tryz.func214.trans (congrArg some (by kernel_rfl))
  f316 := Tryz.func215.trans (congrArg some (by kernel_rfl))
  f317 := Tryz.func218.trans (congrArg some (by kernel_rfl))
  f318 := Tryz.func219.trans (congrArg some (by kernel_rfl))
  f319 := Tryz.func220.trans (congrArg some (by kernel_rfl))
  f320 := Tryz.func221.trans (congrArg some (by kernel_rfl))
  f321 := Tryz.func222.trans (congrArg some (by kernel_rfl))
  f322 := Tryz.func223.trans (congrArg some (by kernel_rfl))
  f337 := Tryz.func224.trans (congrArg some (by kernel_rfl))
  f338 := Tryz.func225.trans (congrArg some (by kernel_rfl))
  t0 := Tryz.underlying0
  a0 := Tryz.isAgg0
  z0 := Tryz.sizeOf0
  v0 := Tryz.zeroValue0
  t2 := Tryz.underlying2
  a2 := Tryz.isAgg2
  z2 := Tryz.sizeOf2
  v2 := Tryz.zeroValue2
  t3 := Tryz.underlying3
  a3 := Tryz.isAgg3
  z3 := Tryz.sizeOf3
  v3 := Tryz.zeroValue3
  t4 := Tryz.underlying4
  a4 := Tryz.isAgg4
  z4 := Tryz.sizeOf4
  v4 := Tryz.zeroValue4
  t5 := Tryz.underlying5
  a5 := Tryz.isAgg5
  z5 := Tryz.sizeOf5
  v5 := Tryz.zeroValue5
  t9 := Tryz.underlying9
  a9 := Tryz.isAgg9
  z9 := Tryz.sizeOf9
  v9 := Tryz.zeroValue9
  t20 := Tryz.underlying20
  a20 := Tryz.isAgg20
  z20 := Tryz.sizeOf20
  v20 := Tryz.zeroValue20
  t21 := Tryz.underlying21
  a21 := Tryz.isAgg21
  z21 := Tryz.sizeOf21
  v21 := Tryz.zeroValue21
  t37 := Tryz.underlying131
  a37 := Tryz.isAgg131
  z37 := Tryz.sizeOf131
  v37 := Tryz.zeroValue131
  t46 := Tryz.underlying193
  a46 := Tryz.isAgg193
  z46 := Tryz.sizeOf193
  v46 := Tryz.zeroValue193
  t51 := Tryz.underlying256
  a51 := Tryz.isAgg256
  z51 := Tryz.sizeOf256
  v51 := Tryz.zeroValue256
  t53 := Tryz.underlying258
  a53 := Tryz.isAgg258
  z53 := Tryz.sizeOf258
  v53 := Tryz.zeroValue258
  t75 := Tryz.underlying27
  a75 := Tryz.isAgg27
  z75 := Tryz.sizeOf27
  v75 := Tryz.zeroValue27
  t76 := Tryz.underlying89
  a76 := Tryz.isAgg89
  z76 := Tryz.sizeOf89
  v76 := Tryz.zeroValue89
  t85 := Tryz.underlying277
  a85 := Tryz.isAgg277
  z85 := Tryz.sizeOf277
  v85 := Tryz.zeroValue277
  t127 := Tryz.underlying177
  a127 := Tryz.isAgg177
  z127 := Tryz.sizeOf177
  v127 := Tryz.zeroValue177
  t143 := Tryz.underlying301
  a143 := Tryz.isAgg301
  z143 := Tryz.sizeOf301
  v143 := Tryz.zeroValue301
  t145 := Tryz.underlying303
  a145 := Tryz.isAgg303
  z145 := Tryz.sizeOf303
  v145 := Tryz.zeroValue303
  t167 := Tryz.underlying276
  a167 := Tryz.isAgg276
  z167 := Tryz.sizeOf276
  v167 := Tryz.zeroValue276
  t168 := Tryz.underlying279
  a168 := Tryz.isAgg279
  z168 := Tryz.sizeOf279
  v168 := Tryz.zeroValue279
  t171 := Tryz.underlying282
  a171 := Tryz.isAgg282
  z171 := Tryz.sizeOf282
  v171 := Tryz.zeroValue282
  t173 := Tryz.underlying284
  a173 := Tryz.isAgg284
  z173 := Tryz.sizeOf284
  v173 := Tryz.zeroValue284
  t175 := Tryz.underlying292
  a175 := Tryz.isAgg292
  z175 := Tryz.sizeOf292
  v175 := Tryz.zeroValue292
  t210 := Tryz.underlying295
  a210 := Tryz.isAgg295
  z210 := Tryz.sizeOf295
  v210 := Tryz.zeroValue295
  t212 := Tryz.underlying298
  a212 := Tryz.isAgg298
  z212 := Tryz.sizeOf298
  v212 := Tryz.zeroValue298
  t213 := Tryz.underlying299
  a213 := Tryz.isAgg299
  z213 := Tryz.sizeOf299
  t232 := Tryz.underlying304
  a232 := Tryz.isAgg304
  z232 := Tryz.sizeOf304
  v232 := Tryz.zeroValue304
  t233 := Tryz.underlying305
  a233 := Tryz.isAgg305
  z233 := Tryz.sizeOf305
  v233 := Tryz.zeroValue305
  g15 := by kernel_rfl
  g16 := by kernel_rfl
  g17 := by kernel_rfl
  g18 := by kernel_rfl
  g19 := by kernel_rfl
  t80 := Tryz.underlying40
  a80 := Tryz.isAgg40
  z80 := Tryz.sizeOf40
  v80 := Tryz.zeroValue40
  i0 := by kernel_rfl
  i2 := by kernel_rfl
  i3 := by kernel_rfl
  i4 := by kernel_rfl
  i5 := by kernel_rfl
  i9 := by kernel_rfl
  i20 := by kernel_rfl
  i21 := by kernel_rfl
  i37 := by kernel_rfl
  i46 := by kernel_rfl
  i51 := by kernel_rfl
  i53 := by kernel_rfl
  i75 := by kernel_rfl
  i76 := by kernel_rfl
  i80 := by kernel_rfl
  i85 := by kernel_rfl
  i127 := by kernel_rfl
  i143 := by kernel_rfl
  i145 := by kernel_rfl
  i167 := by kernel_rfl
  i168 := by kernel_rfl
  i171 := by kernel_rfl
  i173 := by kernel_rfl
  i175 := by kernel_rfl
  i210 := by kernel_rfl
  i212 := by kernel_rfl
  i232 := by kernel_rfl
  i233 := by kernel_rfl
  m15 := by kernel_rfl
  m16 := by kernel_rfl
  m17 := by kernel_rfl
  m18 := by kernel_rfl
  m19 := by kernel_rfl
  c0 := by kernel_rfl
  c2 := by kernel_rfl
  c3 := by kernel_rfl
  c4 := by kernel_rfl
  c5 := by kernel_rfl
  c9 := by kernel_rfl
  c20 := by kernel_rfl
  c21 := by kernel_rfl
  c37 := by kernel_rfl
  c46 := by kernel_rfl
  c51 := by kernel_rfl
  c53 := by kernel_rfl
  c75 := by kernel_rfl
  c76 := by kernel_rfl
  c80 := by kernel_rfl
  c85 := by kernel_rfl
  c127 := by kernel_rfl
  c143 := by kernel_rfl
  c145 := by kernel_rfl
  c167 := by kernel_rfl
  c168 := by kernel_rfl
  c171 := by kernel_rfl
  c173 := by kernel_rfl
  c175 := by kernel_rfl
  c210 := by kernel_rfl
  c212 := by kernel_rfl
  c213 := by kernel_rfl
  c232 := by kernel_rfl
  c233 := by kernel_rfl }
open Go.RowKit in
/-- strconv.Atoi, AT EVERY STRING THAT SPELLS AN int ('Lib.atoiAll .. = .ok v'; of whatever length: leading zeros count): v, AND NO ERROR. The world: as it was, or with the one new row that '[]byte(..)' lays. (LAID: no walk: one application.) -/
theorem Tryz.strconv_Atoi_ok (s : ByteArray) (hmax : s.size ≤ 9223372036854775806) (v : Int) (h : Lib.atoiAll s.data.toList = .ok v) (w : World) :
    Calls Tryz.prog 182 #[.string s] w fun e w' => e = .returned (.tuple #[.int .i64 v, .nilIface]) ∧ (w' = w ∨ ∃ t, w' = Lib.bytesWorld w 5 t) := Any.strconv_Atoi_ok Tryz.laysC172 s hmax v h w
open Go.RowKit in
/-- strconv.Atoi, AT EVERY NUMERAL THAT NO int HOLDS ('.range'): THE GREATEST OR THE LEAST int, BY THE SIGN ('Lib.atoiSat'), AND AN ERROR THAT IS NOT nil: a *NumError in a new block N: {Func: "Atoi", Num: s's bytes, Err: what the variable ErrRange holds}. Of what was there nothing has turned. (LAID: no walk: one application.) -/
theorem Tryz.strconv_Atoi_range (s : ByteArray) (hlim : s.size ≤ 281474976710656) (h : Lib.atoiAll s.data.toList = .range) (ev : Value) (w : World) (hv : w.cell? ⟨8, 0, none⟩ = some ev) (hev : ev = .nilIface ∨ ∃ te pe, ev = .iface te pe) :
    Calls Tryz.prog 182 #[.string s] w fun e w' => ∃ N, e = .returned (.tuple #[.int .i64 (Lib.atoiSat s.data.toList), .iface 279 (.pointer (some ⟨N, 0, none⟩))]) ∧ w.heap.size ≤ N ∧ w'.heap[N]? = some (.cells #[.string ⟨#[65, 116, 111, 105]⟩, .string s, ev] 295 (0, 0)) ∧ Below w.heap.size w w' := Any.strconv_Atoi_range Tryz.laysC172 s hlim h ev w hv hev
def Tryz.lays143_ren : Go.Shelf.Ren := ⟨fun | 143 => 181 | 219 => 193 | 217 => 139 | 225 => 200 | 224 => 201 | 267 => 202 | 266 => 158 | 314 => 213 | n => n, fun | 9 => 9 | 3 => 3 | 4 => 4 | 5 => 5 | 46 => 193 | 146 => 290 | 51 => 256 | n => n, fun | 1 => 4 | n => n⟩
theorem Tryz.lays143 : Go.Proofs.Lays.n143 Tryz.prog Tryz.lays143_ren := {
  mixed := by kernel_rfl
  f143 := Tryz.func181.trans (congrArg some (by kernel_rfl))
  f217 := Tryz.func139.trans (congrArg some (by kernel_rfl))
  f219 := Tryz.func193.trans (congrArg some (by kernel_rfl))
  f224 := Tryz.func201.trans (congrArg some (by kernel_rfl))
  f225 := Tryz.func200.trans (congrArg some (by kernel_rfl))
  f266 := Tryz.func158.trans (congrArg some (by kernel_rfl))
  f267 := Tryz.func202.trans (congrArg some (by kernel_rfl))
  f314 := Tryz.func213.trans (congrArg some (by kernel_rfl))
  t3 := Tryz.underlying3
  a3 := Tryz.isAgg3
  z3 := Tryz.sizeOf3
  v3 := Tryz.zeroValue3
  t4 := Tryz.underlying4
  a4 := Tryz.isAgg4
  z4 := Tryz.sizeOf4
  v4 := Tryz.zeroValue4
  t5 := Tryz.underlying5
  a5 := Tryz.isAgg5
  z5 := Tryz.sizeOf5
  v5 := Tryz.zeroValue5
  t9 := Tryz.underlying9
  a9 := Tryz.isAgg9
  z9 := Tryz.sizeOf9
  v9 := Tryz.zeroValue9
  t46 := Tryz.underlying193
  a46 := Tryz.isAgg193
  z46 := Tryz.sizeOf193
  v46 := Tryz.zeroValue193
  t51 := Tryz.underlying256
  a51 := Tryz.isAgg256
  z51 := Tryz.sizeOf256
  v51 := Tryz.zeroValue256
  t146 := Tryz.underlying290
  a146 := Tryz.isAgg290
  z146 := Tryz.sizeOf290
  v146 := Tryz.zeroValue290
  g1 := by kernel_rfl }
open Go.RowKit Go.Lib in
/-- strings.Index: "Index returns the index of the first instance of substr in s, or -1 if substr is not present in s.": AT A substr OF ONE BYTE c: IT RETURNS 'Lib.indexByte s c'; the world is as it was. (LAID: no walk: one application.) -/
theorem Tryz.strings_Index_one (s : ByteArray) (c : UInt8) (w : World) :
    Calls Tryz.prog 181 #[.string s, .string ⟨#[c]⟩] w fun e w' => e = .returned (.int .i64 (Lib.indexByte s.data.toList c)) ∧ w' = w := Any.strings_Index_one Tryz.lays143 s c w
def Tryz.lays138_ren : Go.Shelf.Ren := ⟨fun | 138 => 180 | 195 => 190 | 218 => 192 | 143 => 181 | 219 => 193 | 217 => 139 | 225 => 200 | 224 => 201 | 267 => 202 | 266 => 158 | 314 => 213 | n => n, fun | 9 => 9 | 3 => 3 | 4 => 4 | 5 => 5 | 0 => 0 | 46 => 193 | 146 => 290 | 51 => 256 | n => n, fun | 1 => 4 | n => n⟩
theorem Tryz.lays138 : Go.Proofs.Lays.n138 Tryz.prog Tryz.lays138_ren := {
  mixed := by kernel_rfl
  f138 := Tryz.func180.trans (congrArg some (by kernel_rfl))
  f143 := Tryz.func181.trans (congrArg some (by kernel_rfl))
  f195 := Tryz.func190.trans (congrArg some (by kernel_rfl))
  f217 := Tryz.func139.trans (congrArg some (by kernel_rfl))
  f218 := Tryz.func192.trans (congrArg some (by kernel_rfl))
  f219 := Tryz.func193.trans (congrArg some (by kernel_rfl))
  f224 := Tryz.func201.trans (congrArg some (by kernel_rfl))
  f225 := Tryz.func200.trans (congrArg some (by kernel_rfl))
  f266 := Tryz.func158.trans (congrArg some (by kernel_rfl))
  f267 := Tryz.func202.trans (congrArg some (by kernel_rfl))
  f314 := Tryz.func213.trans (congrArg some (by kernel_rfl))
  t0 := Tryz.underlying0
  a0 := Tryz.isAgg0
  z0 := Tryz.sizeOf0
  v0 := Tryz.zeroValue0
  t3 := Tryz.underlying3
  a3 := Tryz.isAgg3
  z3 := Tryz.sizeOf3
  v3 := Tryz.zeroValue3
  t4 := Tryz.underlying4
  a4 := Tryz.isAgg4
  z4 := Tryz.sizeOf4
  v4 := Tryz.zeroValue4
  t5 := Tryz.underlying5
  a5 := Tryz.isAgg5
  z5 := Tryz.sizeOf5
  v5 := Tryz.zeroValue5
  t9 := Tryz.underlying9
  a9 := Tryz.isAgg9
  z9 := Tryz.sizeOf9
  v9 := Tryz.zeroValue9
  t46 := Tryz.underlying193
  a46 := Tryz.isAgg193
  z46 := Tryz.sizeOf193
  v46 := Tryz.zeroValue193
  t51 := Tryz.underlying256
  a51 := Tryz.isAgg256
  z51 := Tryz.sizeOf256
  v51 := Tryz.zeroValue256
  t146 := Tryz.underlying290
  a146 := Tryz.isAgg290
  z146 := Tryz.sizeOf290
  v146 := Tryz.zeroValue290
  g1 := by kernel_rfl }
open Go.RowKit Go.Lib in
/-- strings.Count AT A substr OF ONE BYTE ('hp'): "Count counts the number of non-overlapping instances of substr in s.": IT RETURNS 'Lib.countByte s (that byte)'; the world is as it was. ✋ NO CONTRACT HERE YET at an empty substr (utf8.RuneCountInString) or at a longer one (a loop over strings.Index). (LAID: no walk: one application.) -/
theorem Tryz.strings_Count_one (s : ByteArray) (c : UInt8) (w : World) :
    Calls Tryz.prog 180 #[.string s, .string ⟨#[c]⟩] w fun e w' => e = .returned (.int .i64 (Lib.countByte s.data.toList c)) ∧ w' = w := Any.strings_Count_one Tryz.lays138 s c w
def Tryz.lays102_ren : Go.Shelf.Ren := ⟨fun | 102 => 78 | 209 => 116 | 207 => 145 | n => n, fun | 9 => 9 | 4 => 4 | 3 => 3 | n => n, fun | n => n⟩
theorem Tryz.lays102 : Go.Proofs.Lays.n102 Tryz.prog Tryz.lays102_ren := {
  mixed := by kernel_rfl
  f102 := Tryz.func78.trans (congrArg some (by kernel_rfl))
  f207 := Tryz.func145.trans (congrArg some (by kernel_rfl))
  f209 := Tryz.func116.trans (congrArg some (by kernel_rfl))
  t3 := Tryz.underlying3
  a3 := Tryz.isAgg3
  z3 := Tryz.sizeOf3
  v3 := Tryz.zeroValue3
  t4 := Tryz.underlying4
  a4 := Tryz.isAgg4
  z4 := Tryz.sizeOf4
  v4 := Tryz.zeroValue4
  t9 := Tryz.underlying9
  a9 := Tryz.isAgg9
  z9 := Tryz.sizeOf9
  v9 := Tryz.zeroValue9 }
open Go.RowKit Go.Lib in
/-- strings.TrimSuffix: "TrimSuffix returns s without the provided trailing suffix string. If s doesn't end with suffix, s is returned unchanged.": IT RETURNS 'Lib.trimSuffix s suffix'; the world is as it was. (LAID: no walk: one application.) -/
theorem Tryz.strings_TrimSuffix (s p : ByteArray) (w : World) (hs : s.size ≤ 9223372036854775807) :
    Calls Tryz.prog 78 #[.string s, .string p] w fun e w' => e = .returned (.string ⟨(Lib.trimSuffix s.data.toList p.data.toList).toArray⟩) ∧ w' = w := Any.strings_TrimSuffix Tryz.lays102 s p w hs
def Tryz.lays221_ren : Go.Shelf.Ren := ⟨fun | 221 => 159 | 268 => 179 | 138 => 180 | 143 => 181 | 195 => 190 | 197 => 191 | 218 => 192 | 219 => 193 | 260 => 199 | 217 => 139 | 225 => 200 | 224 => 201 | 267 => 202 | 266 => 158 | 314 => 213 | n => n, fun | 9 => 9 | 3 => 3 | 31 => 24 | 4 => 4 | 0 => 0 | 105 => 268 | 21 => 21 | 5 => 5 | 46 => 193 | 119 => 286 | 139 => 289 | 138 => 288 | 146 => 290 | 51 => 256 | n => n, fun | 1 => 4 | 3 => 5 | 4 => 6 | n => n⟩
theorem Tryz.lays221 : Go.Proofs.Lays.n221 Tryz.prog Tryz.lays221_ren := {
  mixed := by kernel_rfl
  f138 := Tryz.func180.trans (congrArg some (by kernel_rfl))
  f143 := Tryz.func181.trans (congrArg some (by kernel_rfl))
  f195 := Tryz.func190.trans (congrArg some (by kernel_rfl))
  f197 := Tryz.func191.trans (congrArg some (by kernel_rfl))
  f217 := Tryz.func139.trans (congrArg some (by kernel_rfl))
  f218 := Tryz.func192.trans (congrArg some (by kernel_rfl))
  f219 := Tryz.func193.trans (congrArg some (by kernel_rfl))
  f221 := Tryz.func159.trans (congrArg some (by kernel_rfl))
  f224 := Tryz.func201.trans (congrArg some (by kernel_rfl))
  f225 := Tryz.func200.trans (congrArg some (by kernel_rfl))
  f260 := Tryz.func199.trans (congrArg some (by kernel_rfl))
  f266 := Tryz.func158.trans (congrArg some (by kernel_rfl))
  f267 := Tryz.func202.trans (congrArg some (by kernel_rfl))
  f268 := Tryz.func179.trans (congrArg some (by kernel_rfl))
  f314 := Tryz.func213.trans (congrArg some (by kernel_rfl))
  t0 := Tryz.underlying0
  a0 := Tryz.isAgg0
  z0 := Tryz.sizeOf0
  v0 := Tryz.zeroValue0
  t3 := Tryz.underlying3
  a3 := Tryz.isAgg3
  z3 := Tryz.sizeOf3
  v3 := Tryz.zeroValue3
  t4 := Tryz.underlying4
  a4 := Tryz.isAgg4
  z4 := Tryz.sizeOf4
  v4 := Tryz.zeroValue4
  t5 := Tryz.underlying5
  a5 := Tryz.isAgg5
  z5 := Tryz.sizeOf5
  v5 := Tryz.zeroValue5
  t9 := Tryz.underlying9
  a9 := Tryz.isAgg9
  z9 := Tryz.sizeOf9
  v9 := Tryz.zeroValue9
  t21 := Tryz.underlying21
  a21 := Tryz.isAgg21
  z21 := Tryz.sizeOf21
  v21 := Tryz.zeroValue21
  t31 := Tryz.underlying24
  a31 := Tryz.isAgg24
  z31 := Tryz.sizeOf24
  v31 := Tryz.zeroValue24
  t46 := Tryz.underlying193
  a46 := Tryz.isAgg193
  z46 := Tryz.sizeOf193
  v46 := Tryz.zeroValue193
  t51 := Tryz.underlying256
  a51 := Tryz.isAgg256
  z51 := Tryz.sizeOf256
  v51 := Tryz.zeroValue256
  t105 := Tryz.underlying268
  a105 := Tryz.isAgg268
  z105 := Tryz.sizeOf268
  v105 := Tryz.zeroValue268
  t119 := Tryz.underlying286
  a119 := Tryz.isAgg286
  z119 := Tryz.sizeOf286
  t138 := Tryz.underlying288
  a138 := Tryz.isAgg288
  z138 := Tryz.sizeOf288
  v138 := Tryz.zeroValue288
  t139 := Tryz.underlying289
  a139 := Tryz.isAgg289
  z139 := Tryz.sizeOf289
  v139 := Tryz.zeroValue289
  t146 := Tryz.underlying290
  a146 := Tryz.isAgg290
  z146 := Tryz.sizeOf290
  v146 := Tryz.zeroValue290
  g1 := by kernel_rfl
  g3 := by kernel_rfl
  g4 := by kernel_rfl }
end Go.Proofs

/-! What the rows' lists give a walk where strconv's table of powers is among them, and a world that meets them. -/
namespace Go.Proofs.YtmfbaijbigodkaaGreatDoor
open Go.ChangeShapes Go.WideShapes Go.ChangeAt Go.RowKit
set_option linter.unusedVariables false

/-- the table of powers -/
def PTab (w : World) : Prop := Lib.TabIs Tryz.prog w "internal/strconv.uint64pow10" .u64 Lib.pow10Tab
theorem Tryz.powName : Tryz.prog.globalNamed "internal/strconv.uint64pow10" = some 9 := by kernel_rfl
theorem PTab.lt {w : World} (h : PTab w) : 9 < w.heap.size := by
  have h0 := Lib.TabIs.cell h Tryz.powName 0 (by decide)
  rcases Nat.lt_or_ge 9 w.heap.size with h1 | h1
  · exact h1
  · simp [World.cell?, Array.getElem?_eq_none h1] at h0
theorem PTab.later {w w1 : World} (h : PTab w) (hb : Below w.heap.size w w1) : PTab w1 := by
  have e := hb.block _ h.lt
  unfold PTab Lib.TabIs World.var? at h ⊢
  rw [Tryz.powName] at h ⊢
  simp only [Option.bind_some] at h ⊢
  rw [e]
  exact h
theorem ptab_of_head {W : World} {rest : List (String × DataW Unit)} (h : laidMet Tryz.prog (("internal/strconv.uint64pow10", Rows.laid_internal_strconv_uint64pow10) :: rest) W) : PTab W :=
  Lib.tabIs_of_head (zs := Lib.pow10Tab) Tryz.powName (t := 298) (by kernel_rfl) (e := 258) (n := 20) (by kernel_rfl) (by kernel_rfl) (by kernel_rfl) (by kernel_rfl) h
def litCells : List (DataW Unit) → List Value
  | .lit (.int k n) :: r => .int k n :: litCells r
  | _ => []
def tabCells : DataW Unit → Array Value
  | .agg l => (litCells l).toArray
  | _ => #[]
end Go.Proofs.YtmfbaijbigodkaaGreatDoor

/-! strconv.Itoa at a number that may be one. Condition: the table of powers lies there. -/
namespace Go.Proofs.YtmfbaijbigodkaaGreatDoor
open Go.ChangeShapes Go.WideShapes Go.ChangeAt Go.RowKit
set_option linter.unusedVariables false

/-- the decimal numeral -/
def ita (n : Int) : ByteArray := ⟨(Lib.itoa n).toArray⟩
theorem nDig : ∀ (k u : Nat), u < 10 ^ k → 1 ≤ Lib.nDigits u ∧ Lib.nDigits u ≤ k + (if k = 0 then 1 else 0)
  | 0, u, h => by
    have : u = 0 := by simpa using h
    subst this
    unfold Lib.nDigits
    simp
  | k + 1, u, h => by
    unfold Lib.nDigits
    by_cases h10 : u < 10
    · rw [dif_pos h10]; simp
    · rw [dif_neg h10]
      have ih := nDig k (u / 10) (by rw [Nat.pow_succ] at h; omega)
      cases k with
      | zero => simp at h; omega
      | succ k => simp only [Nat.add_eq_zero_iff, Nat.one_ne_zero, and_false, if_false] at ih ⊢; omega
theorem ita_size {n : Int} (h0 : 0 ≤ n) (h1 : n ≤ 1073741823) : 1 ≤ (ita n).size ∧ (ita n).size ≤ 10 := by
  obtain ⟨u, rfl⟩ : ∃ u : Nat, n = u := ⟨n.toNat, by omega⟩
  have e : (ita (u : Int)).size = Lib.nDigits u := by
    show (Lib.itoa (u : Int)).toArray.size = _
    rw [Lib.itoa_nonneg, List.size_toArray, Lib.decDigits_length]
  rw [e]
  have := nDig 10 u (by omega)
  simpa using this
theorem below_grow (w : World) (k : Nat) (os : Array Obj) : Below w.heap.size w (Go.Sort.grow (w.drewN k) os) :=
  ⟨rfl, rfl, rfl, by show w.heap.size ≤ (w.heap ++ os).size; simp, fun i hi => by
    show (w.heap ++ os)[i]? = w.heap[i]?
    rw [Array.getElem?_append_left hi]⟩
theorem itoaC (n : Int) (h0 : 0 ≤ n) (h1 : n ≤ 1073741823) (w : World) (hp : PTab w) :
    Calls Tryz.prog 165 #[.int .i64 n] w fun e w' => e = .returned (.string (ita n)) ∧ Below w.heap.size w w' := by
  refine (Tryz.strconv_Itoa n (by omega) (by omega) w hp).mono ?_
  rintro e w' ⟨rfl, k, os, rfl⟩
  exact ⟨rfl, below_grow w k os⟩
end Go.Proofs.YtmfbaijbigodkaaGreatDoor

/-! The bytes of a log, in plain words: records one behind the other, each a decimal numeral and a newline; what cutting, searching and reading them gives. No program here. -/
namespace Go.Proofs.YtmfbaijbigodkaaGreatDoor
open Go.RowKit
set_option linter.unusedVariables false

theorem dig_app (l : List UInt8) (d : Nat) (hd : d < 10) : ∀ (acc n : Nat), Lib.decFrom acc l = some n → Lib.decFrom acc (l ++ [UInt8.ofNat (48 + d)]) = some (n * 10 + d) := by
  induction l with
  | nil =>
    intro acc n h
    have h1 : acc = n := by simpa [Lib.decFrom] using h
    subst h1
    have hv : Lib.digitVal (UInt8.ofNat (48 + d)) = some d := by
      unfold Lib.digitVal
      rw [UInt8.toNat_ofNat', if_pos (by omega)]
      congr 1
      omega
    show Lib.decFrom acc [UInt8.ofNat (48 + d)] = _
    rw [Lib.decFrom, hv]
    rfl
  | cons b r ih =>
    intro acc n h
    rw [List.cons_append]
    rw [Lib.decFrom] at h ⊢
    cases hv : Lib.digitVal b with
    | none => rw [hv] at h; cases h
    | some x => rw [hv] at h; exact ih _ _ h
theorem dig_read (u : Nat) : Lib.decFrom 0 (Lib.decDigits u) = some u := by
  induction u using Nat.strongRecOn with
  | _ u ih =>
    rw [Lib.decDigits]
    split
    · rename_i h
      have := dig_app [] u h 0 0 rfl
      simpa using this
    · rename_i h
      have := dig_app (Lib.decDigits (u / 10)) (u % 10) (by omega) 0 (u / 10) (ih (u / 10) (by omega))
      rw [this]
      congr 1
      omega
theorem index_at : ∀ (l r : List UInt8), (∀ b ∈ l, b ≠ 10) → Lib.indexByte (l ++ 10 :: r) 10 = (l.length : Int)
  | [], r, _ => by simp [Lib.indexByte]
  | b :: l, r, h => by
    have hb : (b == 10) = false := by simpa using h b (by simp)
    have ih := index_at l r (fun c hc => h c (by simp [hc]))
    have hne : ((l.length : Int) == -1) = false := by rw [beq_eq_false_iff_ne]; omega
    rw [List.cons_append, Lib.indexByte, hb, ih, hne, List.length_cons]
    simp
/-- no newline in these -/
def noNl (l : List UInt8) : Prop := ∀ b ∈ l, b ≠ 10
end Go.Proofs.YtmfbaijbigodkaaGreatDoor

/-! Sessions in plain words: the words of a line, the numbers among them, the command they give, the answer to it, and the answers to all lines of a text. No program here. -/
namespace Go.Proofs.YtmfbaijbigodkaaGreatDoor
open Go.RowKit
set_option linter.unusedVariables false

/-- the words of a line -/
def cutAt (c : UInt8) : List UInt8 → List (List UInt8)
  | [] => [[]]
  | b :: r => if b = c then [] :: cutAt c r else match cutAt c r with
    | [] => [[b]]
    | x :: xs => (b :: x) :: xs
theorem cutAt_ne (c : UInt8) (l : List UInt8) : cutAt c l ≠ [] := by
  cases l with
  | nil => simp [cutAt]
  | cons b r =>
    rw [cutAt]
    split
    · simp
    · split <;> simp
/-- no byte c in it -/
def free (c : UInt8) (l : List UInt8) : Prop := ∀ b ∈ l, b ≠ c
theorem cutAt_free {c : UInt8} : ∀ {l : List UInt8}, free c l → cutAt c l = [l]
  | [], _ => rfl
  | b :: r, h => by
    have hb : b ≠ c := h b (by simp)
    have ih := cutAt_free (l := r) (fun x hx => h x (by simp [hx]))
    rw [cutAt, if_neg hb, ih]
theorem cutAt_app {c : UInt8} : ∀ {l : List UInt8} (r : List UInt8), free c l → cutAt c (l ++ c :: r) = l :: cutAt c r
  | [], r, _ => by rw [List.nil_append, cutAt, if_pos rfl]
  | b :: l, r, h => by
    have hb : b ≠ c := h b (by simp)
    have ih := cutAt_app (l := l) r (fun x hx => h x (by simp [hx]))
    rw [List.cons_append, cutAt, if_neg hb, ih]
theorem cutAt_each {c : UInt8} : ∀ {l : List UInt8}, ∀ x ∈ cutAt c l, free c x ∧ x.length ≤ l.length
  | [], x, hx => by
    rw [cutAt, List.mem_singleton] at hx
    subst hx
    exact ⟨fun b hb => by simp at hb, Nat.le_refl _⟩
  | b :: r, x, hx => by
    rw [cutAt] at hx
    split at hx
    · rcases List.mem_cons.1 hx with rfl | hx
      · exact ⟨fun b hb => by simp at hb, by simp⟩
      · obtain ⟨h1, h2⟩ := cutAt_each x hx
        exact ⟨h1, by rw [List.length_cons]; omega⟩
    · rename_i hb
      cases hc : cutAt c r with
      | nil => exact absurd hc (cutAt_ne c r)
      | cons y ys =>
        rw [hc] at hx
        rcases List.mem_cons.1 hx with rfl | hx
        · obtain ⟨h1, h2⟩ := cutAt_each (l := r) y (by rw [hc]; simp)
          refine ⟨fun a ha => ?_, by rw [List.length_cons, List.length_cons]; omega⟩
          rcases List.mem_cons.1 ha with rfl | ha
          · exact hb
          · exact h1 a ha
        · obtain ⟨h1, h2⟩ := cutAt_each (l := r) x (by rw [hc]; simp [hx])
          exact ⟨h1, by rw [List.length_cons]; omega⟩
theorem cutAt_few (c : UInt8) : ∀ l : List UInt8, (cutAt c l).length ≤ l.length + 1
  | [] => Nat.le_refl _
  | b :: r => by
    have ih := cutAt_few c r
    rw [cutAt, List.length_cons]
    split
    · rw [List.length_cons]; omega
    · cases hc : cutAt c r with
      | nil => simp
      | cons x xs =>
        rw [hc, List.length_cons] at ih
        rw [List.length_cons]; omega
theorem index_skip {b c : UInt8} {l : List UInt8} (h : b ≠ c) : Lib.index (b :: l) [c] = if Lib.index l [c] == -1 then -1 else Lib.index l [c] + 1 := by
  have hp : ([c] : List UInt8).isPrefixOf (b :: l) = false := by simp [List.isPrefixOf, Ne.symm h]
  rw [Lib.index, hp]; simp
theorem index_here {c : UInt8} {l : List UInt8} : Lib.index (c :: l) [c] = 0 := by rw [Lib.index]; simp [List.isPrefixOf]
/-- strings.Split at one byte is this -/
theorem splitK_cut (c : UInt8) : ∀ (l : List UInt8) (k : Nat), l.count c ≤ k → Lib.splitK [c] 0 k l = cutAt c l
  | [], k, _ => by
    cases k with
    | zero => rfl
    | succ k =>
      have : Lib.index ([] : List UInt8) [c] = -1 := by simp [Lib.index]
      rw [Lib.splitK, this]; rfl
  | b :: r, k, hk => by
    by_cases hb : b = c
    · subst hb
      rw [List.count_cons_self] at hk
      cases k with
      | zero => omega
      | succ k =>
        rw [Lib.splitK, index_here, cutAt, if_pos rfl]
        have ih := splitK_cut b r k (by omega)
        rw [if_neg (by decide)]
        show ([] : List UInt8) :: Lib.splitK [b] 0 k r = _
        rw [ih]
    · rw [List.count_cons_of_ne hb] at hk
      have ih := splitK_cut c r k hk
      rw [cutAt, if_neg hb]
      cases k with
      | zero =>
        rw [Lib.splitK] at ih ⊢
        rw [← ih]
      | succ k =>
        rw [Lib.splitK] at ih ⊢
        rw [index_skip hb]
        by_cases hm : Lib.index r [c] = -1
        · rw [hm] at ih ⊢
          rw [← ih]
          rfl
        · have hge := Lib.index_ge r [c]
          obtain ⟨j, hj⟩ : ∃ j : Nat, Lib.index r [c] = j := ⟨(Lib.index r [c]).toNat, by omega⟩
          have e1 : ((j : Int) == -1) = false := by rw [beq_eq_false_iff_ne]; omega
          have e2 : (((j : Int) + 1) == -1) = false := by rw [beq_eq_false_iff_ne]; omega
          rw [hj, e1] at ih ⊢
          simp only [Bool.false_eq_true, if_false] at ih ⊢
          rw [e2, ← ih]
          simp only [Bool.false_eq_true, if_false]
          have e3 : ((j : Int) + 1).toNat = j + 1 := by omega
          have e4 : (j : Int).toNat = j := by omega
          rw [e3, e4]
          rfl
/-- a number of at most four digits, without a needless 0 -/
def dgN (l : List UInt8) : Option Nat := if l = [] ∨ 4 < l.length ∨ (l.head? = some 48 ∧ 1 < l.length) then none else Lib.decFrom 0 l
theorem dd_small {u : Nat} (h : u < 10) : Lib.decDigits u = [UInt8.ofNat (48 + u)] := by rw [Lib.decDigits, dif_pos h]
theorem dd_big {u : Nat} (h : ¬ u < 10) : Lib.decDigits u = Lib.decDigits (u / 10) ++ [UInt8.ofNat (48 + u % 10)] := by rw [Lib.decDigits, dif_neg h]
theorem dd_len (u : Nat) : 1 ≤ (Lib.decDigits u).length := by rw [Lib.decDigits_length]; exact Lib.nDigits_pos u
theorem dd_head : ∀ (u : Nat), 1 ≤ u → (Lib.decDigits u).head? ≠ some 48 := by
  intro u
  induction u using Nat.strongRecOn with
  | _ u ih =>
    intro h1
    by_cases h : u < 10
    · rw [dd_small h]
      intro e
      have e2 : UInt8.ofNat (48 + u) = 48 := by simpa using e
      have e3 := congrArg UInt8.toNat e2
      rw [UInt8.toNat_ofNat'] at e3
      have : (48 : UInt8).toNat = 48 := rfl
      omega
    · rw [dd_big h]
      have := ih (u / 10) (by omega) (by omega)
      have hl := dd_len (u / 10)
      cases hd : Lib.decDigits (u / 10) with
      | nil => rw [hd] at hl; simp at hl
      | cons a r =>
        rw [hd] at this
        simpa using this
theorem dec_snoc : ∀ (l : List UInt8) (b : UInt8) (acc : Nat), Lib.decFrom acc (l ++ [b]) = match Lib.decFrom acc l with
    | none => none
    | some m => match Lib.digitVal b with
      | none => none
      | some d => some (m * 10 + d)
  | [], b, acc => by
    rw [List.nil_append, Lib.decFrom, Lib.decFrom]
    cases Lib.digitVal b <;> rfl
  | a :: r, b, acc => by
    rw [List.cons_append, Lib.decFrom, Lib.decFrom]
    cases Lib.digitVal a with
    | none => rfl
    | some d => exact dec_snoc r b _
theorem byte_of {b : UInt8} {d : Nat} (h : Lib.digitVal b = some d) : b = UInt8.ofNat (48 + d) ∧ d < 10 := by
  obtain ⟨h1, h2, h3⟩ := Lib.digitVal_eq h
  refine ⟨?_, by omega⟩
  apply UInt8.toNat_inj.1
  rw [UInt8.toNat_ofNat']
  have := b.toNat_lt
  omega
theorem dd_back : ∀ (k : Nat) (l : List UInt8) (n : Nat), l.length = k + 1 → (l.head? = some 48 → l.length = 1) → Lib.decFrom 0 l = some n → Lib.decDigits n = l
  | 0, l, n, hl, _, h => by
    obtain ⟨b, rfl⟩ := List.length_eq_one_iff.1 hl
    rw [Lib.decFrom] at h
    cases hd : Lib.digitVal b with
    | none => rw [hd] at h; cases h
    | some d =>
      rw [hd] at h
      obtain ⟨h1, h2⟩ := byte_of hd
      have e : n = d := by simpa [Lib.decFrom] using h.symm
      subst e
      rw [dd_small h2, ← h1]
  | k + 1, l, n, hl, h0, h => by
    obtain ⟨r, b, rfl⟩ : ∃ r b, l = r ++ [b] := ⟨l.dropLast, l.getLast (by intro e; rw [e] at hl; simp at hl), (List.dropLast_concat_getLast _).symm⟩
    rw [List.length_append, List.length_singleton] at hl
    have hr : r.length = k + 1 := by omega
    cases r with
    | nil => simp at hr
    | cons a t =>
      have hh : a ≠ 48 := by
        intro e
        have := h0 (by rw [e]; rfl)
        rw [List.length_append, List.length_singleton] at this
        omega
      rw [dec_snoc] at h
      cases hm : Lib.decFrom 0 (a :: t) with
      | none => rw [hm] at h; cases h
      | some m =>
        rw [hm] at h
        cases hd : Lib.digitVal b with
        | none => rw [hd] at h; cases h
        | some d =>
          rw [hd] at h
          obtain ⟨h1, h2⟩ := byte_of hd
          have ih := dd_back k (a :: t) m hr (fun e => absurd (by simpa using e) hh) hm
          have hm1 : 1 ≤ m := by
            rcases Nat.eq_zero_or_pos m with rfl | h
            · rw [dd_small (by decide)] at ih
              have e2 : (48 : UInt8) = a := by have := congrArg List.head? ih; simpa using this
              exact absurd e2.symm hh
            · exact h
          have e : n = m * 10 + d := by simpa using h.symm
          subst e
          rw [dd_big (by omega), show (m * 10 + d) / 10 = m by omega, show (m * 10 + d) % 10 = d by omega, ih, ← h1]
/-- a number is read, and written as it was -/
theorem dg_yes {l : List UInt8} {n : Nat} (h : dgN l = some n) : Lib.atoiAll l = .ok (n : Int) ∧ 1 ≤ l.length ∧ l.length ≤ 4 ∧ Lib.itoa (n : Int) = l ∧ n ≤ 9999 := by
  unfold dgN at h
  split at h
  · cases h
  · rename_i hn
    have h0 : l ≠ [] := fun e => hn (Or.inl e)
    have h4 : l.length ≤ 4 := by
      rcases Nat.lt_or_ge 4 l.length with h | h
      · exact absurd (Or.inr (Or.inl h)) hn
      · exact h
    have h1 : 1 ≤ l.length := List.length_pos_iff.2 h0
    have hz : l.head? = some 48 → l.length = 1 := fun e => by
      rcases Nat.lt_or_ge 1 l.length with h | h
      · exact absurd (Or.inr (Or.inr ⟨e, h⟩)) hn
      · omega
    have hlt : n ≤ 9999 := by
      have := Lib.decFrom_lt l 0 n h
      have hp : 10 ^ l.length ≤ 10 ^ 4 := Nat.pow_le_pow_right (by decide) h4
      omega
    refine ⟨?_, h1, h4, ?_, hlt⟩
    · rw [Lib.atoiAll_short l (by omega)]
      cases l with
      | nil => exact absurd rfl h0
      | cons b r =>
        have hb : ∃ d, Lib.digitVal b = some d := Lib.digit_of_decFrom (b :: r) 0 n h 0 b rfl
        obtain ⟨d, hd⟩ := hb
        obtain ⟨b1, b2, b3⟩ := Lib.digitVal_eq hd
        have n1 : (b == 45) = false := by
          rw [beq_eq_false_iff_ne]
          rintro rfl
          simp at b1
        have n2 : (b == 43) = false := by
          rw [beq_eq_false_iff_ne]
          rintro rfl
          simp at b1
        rw [Lib.atoi, n1, n2]
        simp only [Bool.false_eq_true, if_false]
        unfold Lib.decNat
        rw [h]
        rfl
    · rw [Lib.itoa_nonneg]
      exact dd_back (l.length - 1) l n (by omega) hz h
theorem dg_itoa (u : Nat) (h4 : (Lib.decDigits u).length ≤ 4) : dgN (Lib.decDigits u) = some u := by
  have hl := dd_len u
  unfold dgN
  rw [if_neg, dig_read]
  rintro (h | h | ⟨h1, h2⟩)
  · rw [h] at hl; simp at hl
  · omega
  · rcases Nat.eq_zero_or_pos u with rfl | h
    · rw [dd_small (by decide)] at h2
      simp at h2
    · exact dd_head u h h1
theorem dg_no {l : List UInt8} (h : dgN l = none) {v : Int} (hv : 0 ≤ v) (h4 : l.length ≤ 4) : Lib.itoa v ≠ l := by
  intro e
  obtain ⟨u, rfl⟩ : ∃ u : Nat, v = u := ⟨v.toNat, by omega⟩
  rw [Lib.itoa_nonneg] at e
  subst e
  rw [dg_itoa u h4] at h
  cases h
/-- numbers, if each is one -/
def nums : List (List UInt8) → Option (List Nat)
  | [] => some []
  | x :: r => match dgN x with
    | none => none
    | some n => match nums r with
      | none => none
      | some ns => some (n :: ns)
theorem nums_len : ∀ {L : List (List UInt8)} {ns : List Nat}, nums L = some ns → ns.length = L.length
  | [], ns, h => by cases h; rfl
  | x :: r, ns, h => by
    rw [nums] at h
    split at h
    · cases h
    · split at h
      · cases h
      · rename_i _ n _ _ ms hm
        cases h
        rw [List.length_cons, List.length_cons, nums_len hm]
theorem nums_snoc (L : List (List UInt8)) (x : List UInt8) : nums (L ++ [x]) = match nums L with
    | none => none
    | some ns => match dgN x with
      | none => none
      | some n => some (ns ++ [n]) := by
  induction L with
  | nil =>
    rw [List.nil_append, nums, nums]
    cases dgN x <;> rfl
  | cons y r ih =>
    rw [List.cons_append, nums, nums, ih]
    cases dgN y with
    | none => rfl
    | some m =>
      cases nums r with
      | none => rfl
      | some ns => cases dgN x <;> rfl
theorem nums_bad {L R : List (List UInt8)} (h : nums L = none) : nums (L ++ R) = none := by
  induction L with
  | nil => cases h
  | cons y r ih =>
    rw [List.cons_append, nums]
    rw [nums] at h
    cases hd : dgN y with
    | none => rfl
    | some m =>
      rw [hd] at h
      cases hr : nums r with
      | none => rw [ih hr]
      | some ns => rw [hr] at h; cases h
def wWrite : List UInt8 := [119, 114, 105, 116, 101]
def wSend : List UInt8 := [115, 101, 110, 100]
def wCome : List UInt8 := [99, 111, 109, 101]
def wLose : List UInt8 := [108, 111, 115, 101]
def wTwice : List UInt8 := [116, 119, 105, 99, 101]
def wRead : List UInt8 := [114, 101, 97, 100]
def wCount : List UInt8 := [99, 111, 117, 110, 116]
def wVarint : List UInt8 := [118, 97, 114, 105, 110, 116]
def wNeed : List UInt8 := [110, 101, 101, 100]
/-- how many numbers a word wants -/
def manyOf (x : List UInt8) : Option Nat :=
  if x = wWrite ∨ x = wSend ∨ x = wCome ∨ x = wLose ∨ x = wTwice ∨ x = wVarint then some 1
  else if x = wRead ∨ x = wNeed then some 2
  else if x = wCount then some 0 else none
/-- a command: the word, its numbers, its text; none: these words are none -/
def parse (ws : List (List UInt8)) : Option (List UInt8 × List Nat × List UInt8) :=
  match ws with
  | [] => none
  | x :: r =>
    if x = wWrite then match r with
      | [a, d] => if d = [] then none else match dgN a with
        | none => none
        | some n => some (x, [n], d)
      | _ => none
    else match manyOf x with
      | none => none
      | some m => match nums r with
        | none => none
        | some ns => if ns.length = m then some (x, ns, []) else none
def bOk : ByteArray := ⟨#[111, 107]⟩
def bBad : ByteArray := ⟨#[98, 97, 100]⟩
def bDash : ByteArray := ⟨#[45]⟩
/-- an error's name -/
def eName (e : Int) : ByteArray :=
  if e = 0 then ⟨#[79, 75]⟩
  else if e = 1 then ⟨#[69, 114, 114, 82, 97, 110, 103, 101]⟩
  else if e = 2 then ⟨#[69, 114, 114, 83, 121, 110, 116, 97, 120]⟩
  else if e = 3 then ⟨#[69, 114, 114, 83, 104, 97, 112, 101]⟩
  else if e = 4 then ⟨#[69, 114, 114, 70, 117, 108, 108]⟩
  else if e = 5 then ⟨#[69, 114, 114, 78, 111, 110, 101]⟩
  else if e = 6 then ⟨#[69, 114, 114, 83, 116, 97, 116, 101]⟩
  else if e = 7 then ⟨#[69, 114, 114, 67, 108, 97, 115, 104]⟩
  else if e = 8 then ⟨#[69, 114, 114, 70, 108, 111, 119]⟩
  else ⟨#[69, 114, 114, 110, 111]⟩
/-- the bytes of a text, in decimal, a space between -/
def tells (l : List UInt8) : List UInt8 := Lib.join (l.map fun b => Lib.itoa (b.toNat : Int)) [32]
/-- what a command gives: its answer, the error, and the talk behind it -/
noncomputable def doW (s : TkS) (x : List UInt8) (n : List Nat) (d : List UInt8) : ByteArray × Int × TkS :=
  if x = wWrite then (bOk, s.writeE (n.getD 0 0 : Nat) ⟨d.toArray⟩, s.write (n.getD 0 0 : Nat) ⟨d.toArray⟩)
  else if x = wSend then (bOk, s.sendE (n.getD 0 0 : Nat), s.send (n.getD 0 0 : Nat))
  else if x = wCome then (bOk, s.comeE (n.getD 0 0 : Nat), s.come (n.getD 0 0 : Nat))
  else if x = wLose then (bOk, giveE s.L (n.getD 0 0 : Nat), { s with L := giveL s.L (n.getD 0 0 : Nat) })
  else if x = wTwice then (bOk, twiceE s.L (n.getD 0 0 : Nat), { s with L := twiceL s.L (n.getD 0 0 : Nat) })
  else if x = wRead then (if s.readS (n.getD 0 0 : Nat) (n.getD 1 0 : Nat) = ⟨#[]⟩ then bDash else s.readS (n.getD 0 0 : Nat) (n.getD 1 0 : Nat), TkS.readE (n.getD 0 0 : Nat) (n.getD 1 0 : Nat), s.read (n.getD 0 0 : Nat) (n.getD 1 0 : Nat))
  else if x = wVarint then (⟨(tells (vbytes (n.getD 0 0 : Nat))).toArray⟩, 0, s)
  else if x = wNeed then (⟨(Lib.itoa (needV (n.getD 0 0 : Nat) (n.getD 1 0 : Nat))).toArray⟩, needE (n.getD 0 0 : Nat) (n.getD 1 0 : Nat), s)
  else (⟨(Lib.itoa (s.L.length : Int)).toArray⟩, 0, s)
/-- the answer to words, and the talk behind them -/
noncomputable def ansW (s : TkS) (ws : List (List UInt8)) : ByteArray × TkS :=
  match parse ws with
  | none => (bBad, s)
  | some (x, n, d) => (if (doW s x n d).2.1 = 0 then (doW s x n d).1 else eName (doW s x n d).2.1, (doW s x n d).2.2)
/-- the answer to a line -/
noncomputable def ans (s : TkS) (l : List UInt8) : ByteArray × TkS := ansW s (cutAt 32 l)
/-- the answers to lines, each with its end -/
noncomputable def anss (s : TkS) : List (List UInt8) → List UInt8
  | [] => []
  | l :: r => (ans s l).1.data.toList ++ 10 :: anss (ans s l).2 r
/-- the talk behind lines -/
noncomputable def behind (s : TkS) : List (List UInt8) → TkS
  | [] => s
  | l :: r => behind (ans s l).2 r
theorem behind_app (s : TkS) (L R : List (List UInt8)) : behind s (L ++ R) = behind (behind s L) R := by
  induction L generalizing s with
  | nil => rfl
  | cons l r ih => exact ih _
theorem anss_app (s : TkS) (L R : List (List UInt8)) : anss s (L ++ R) = anss s L ++ anss (behind s L) R := by
  induction L generalizing s with
  | nil => rfl
  | cons l r ih =>
    rw [List.cons_append, anss, anss, ih, List.append_assoc]
    rfl
end Go.Proofs.YtmfbaijbigodkaaGreatDoor

/-! Words and numbers of a session: strings.Split at one byte, and run's digit and numbers, by contracts. Condition: strconv's table of powers lies there, and its two errors are errors; the texts are short. -/
namespace Go.Proofs.YtmfbaijbigodkaaGreatDoor
open Go.ChangeShapes Go.WideShapes Go.ChangeAt Go.RowKit Go.Shelf
set_option linter.unusedVariables false

/-- strconv's two errors are errors -/
def STab (w : World) : Prop := (∃ te pe, w.cell? ⟨7, 0, none⟩ = some (.iface te pe)) ∧ ∃ te pe, w.cell? ⟨8, 0, none⟩ = some (.iface te pe)
theorem STab.later {w w1 : World} (h : STab w) (hb : Below w.heap.size w w1) : STab w1 := by
  obtain ⟨⟨a, b, h1⟩, ⟨c, d, h2⟩⟩ := h
  exact ⟨⟨a, b, cell_later hb h1⟩, ⟨c, d, cell_later hb h2⟩⟩
/-- strings.Split at one byte -/
theorem split_one (s : ByteArray) (c : UInt8) (w : World) (hs : s.size ≤ 1000000) :
    Calls Tryz.prog 141 #[.string s, .string ⟨#[c]⟩] w fun e w' => ∃ L : List ByteArray, L.map (·.data.toList) = cutAt c s.data.toList ∧ e = .returned (.slice (some ⟨w.heap.size, 0, none⟩) L.length L.length) ∧ w' = w.alloc (.cells (L.map Value.string).toArray 9) := by
  have h1 : 1 ≤ (⟨#[c]⟩ : ByteArray).size := Nat.le_refl _
  have hle := Lib.countB_le ⟨#[c]⟩ h1 s.size s (Nat.le_refl _)
  have hlen := Lib.splitB_all ⟨#[c]⟩ h1 0 _ s rfl
  have hcn : Lib.countB s ⟨#[c]⟩ = s.data.toList.count c := by
    show Lib.count s.data.toList [c] = _
    exact Lib.count_one c _
  have hC : Calls Tryz.prog 180 #[.string s, .string ⟨#[c]⟩] w fun e w' => e = .returned (.int .i64 (Lib.countB s ⟨#[c]⟩)) ∧ w' = w := by
    refine (Tryz.strings_Count_one s c w).mono fun e w' ⟨he, hw⟩ => ⟨?_, hw⟩
    rw [he, hcn]
    rfl
  have hg := Any.strings_genSplit_core Tryz.lays221 (by kernel_rfl) s ⟨#[c]⟩ 0 (-1) (Lib.countB s ⟨#[c]⟩ + 1) w (by omega) h1 (Nat.zero_le _) (fun x cs hx => by
    refine (Tryz.strings_Index_one x c _).mono fun e w' ⟨he, hw⟩ => ⟨?_, hw⟩
    rw [he, ← Lib.index_one]) hC (by decide) (by decide) (by rw [if_pos (by decide)]; omega)
  rw [Nat.add_sub_cancel, hlen] at hg
  have e2 : Lib.cellsOf (Lib.splitB ⟨#[c]⟩ 0 (Lib.countB s ⟨#[c]⟩) s) (Lib.countB s ⟨#[c]⟩ + 1) = ((Lib.splitB ⟨#[c]⟩ 0 (Lib.countB s ⟨#[c]⟩) s).map Value.string).toArray := by rw [← hlen]; exact Lib.cellsOf_full _
  rw [e2, ← hlen] at hg
  have hcut : (Lib.splitB ⟨#[c]⟩ 0 (Lib.countB s ⟨#[c]⟩) s).map (·.data.toList) = cutAt c s.data.toList := by
    rw [Lib.splitB_data]
    exact splitK_cut c _ _ (by rw [hcn]; exact Nat.le_refl _)
  generalize Lib.splitB ⟨#[c]⟩ 0 (Lib.countB s ⟨#[c]⟩) s = L at *
  have HG : Hid (Calls Tryz.prog 159 #[.string s, .string ⟨#[c]⟩, .int .i64 0, .int .i64 (-1)] w fun e w' => e = .returned (.slice (some ⟨w.heap.size, 0, none⟩) L.length L.length) ∧ w' = w.alloc (.cells (L.map Value.string).toArray 9)) := Lib.hid hg
  have HCUT := Lib.hid hcut
  clear hg hcut e2 hC hcn hle hlen
  go_enter Tryz.func141, Tryz.ntmps141
  go_wp2_with (go_at_call 159; refine HG.out.mono ?_; rintro e w' ⟨rfl, rfl⟩)
  go_ret
  exact ⟨L, HCUT.out, rfl, rfl⟩
/-- a word that is a number -/
theorem pdigit_yes (s : ByteArray) (n : Nat) (h : dgN s.data.toList = some n) (w : World) (hP : PTab w) :
    Calls Tryz.prog 160 #[.string s] w fun e w' => e = .returned (.tuple #[.int .i64 n, .bool true]) ∧ Below w.heap.size w w' := by
  obtain ⟨h1, h2, h3, h4, h5⟩ := dg_yes h
  have hsz : s.data.toList.length = s.size := by rw [Array.length_toList]; rfl
  have HA : Hid (Calls Tryz.prog 182 #[.string s] w fun e w' => e = .returned (.tuple #[.int .i64 n, .nilIface]) ∧ Below w.heap.size w w') := Lib.hid (by
    refine (Tryz.strconv_Atoi_ok s (by omega) n h1 w).mono ?_
    rintro e w' ⟨rfl, rfl | ⟨t, rfl⟩⟩
    · exact ⟨rfl, Below.refl _ _⟩
    · exact ⟨rfl, Lib.bytesWorld_below _ _ _⟩)
  have HI : Hid (∀ W, Since w W → Calls Tryz.prog 165 #[.int .i64 n] W fun e w' => e = .returned (.string s) ∧ Below W.heap.size W w') := Lib.hid (fun W hW => by
    refine (itoaC n (by omega) (by omega) W (hP.later hW)).mono ?_
    rintro e w' ⟨rfl, hb⟩
    refine ⟨?_, hb⟩
    unfold ita
    rw [h4])
  have hq : ((n : Int) ≥ 0) := by omega
  have hq2 : (0 : Int) ≤ (n : Int) := by omega
  have hq3 : (s.size : Int) ≤ 4 := by omega
  have hq4 : s.size ≤ 4 := by omega
  clear h h1 h2 h3 h4 h5 hsz hP
  go_enter Tryz.func160, Tryz.ntmps160
  trace "A"; go_wp2_with fail
  refine HA.out.mono ?_
  rintro e w1 ⟨rfl, hb1⟩
  have hs1 : Since w w1 := hb1
  trace "B"; go_wp2_with fail
  refine (HI.out _ hs1).mono ?_
  rintro e w2 ⟨rfl, hb2⟩
  have hs2 : Since w w2 := hs1.later hb2
  trace "C"; go_wp2_with fail
  go_ret2
  exact ⟨by simp, hs2⟩
/-- a word that is none -/
theorem pdigit_no (s : ByteArray) (h : dgN s.data.toList = none) (hs : s.size ≤ 1000000) (w : World) (hP : PTab w) (hS : STab w) :
    Calls Tryz.prog 160 #[.string s] w fun e w' => ∃ n : Int, e = .returned (.tuple #[.int .i64 n, .bool false]) ∧ Below w.heap.size w w' := by
  have hsz : s.data.toList.length = s.size := by rw [Array.length_toList]; rfl
  cases ha : Lib.atoiAll s.data.toList
  case ok v =>
    obtain ⟨vb0, vb1⟩ := Lib.atoiAll_bounds ha
    have HA : Hid (Calls Tryz.prog 182 #[.string s] w fun e w' => e = .returned (.tuple #[.int .i64 v, .nilIface]) ∧ Below w.heap.size w w') := Lib.hid (by
      refine (Tryz.strconv_Atoi_ok s (by omega) v ha w).mono ?_
      rintro e w' ⟨rfl, rfl | ⟨t, rfl⟩⟩
      · exact ⟨rfl, Below.refl _ _⟩
      · exact ⟨rfl, Lib.bytesWorld_below _ _ _⟩)
    by_cases hv0 : 0 ≤ v
    case neg =>
      have hq : decide (0 ≤ v) = false := by simpa using hv0
      clear h ha hsz hP hS hv0
      go_enter Tryz.func160, Tryz.ntmps160
      go_wp2_with fail
      refine HA.out.mono ?_
      rintro e w1 ⟨rfl, hb1⟩
      have hs1 : Since w w1 := hb1
      clear hb1
      go_wp2_with fail
      go_ret2
      exact ⟨_, rfl, hs1⟩
    by_cases h4 : s.size ≤ 4
    case neg =>
      have hq : decide ((s.size : Int) ≤ 4) = false := by simp; omega
      clear h ha hsz hP hS
      go_enter Tryz.func160, Tryz.ntmps160
      go_wp2_with fail
      refine HA.out.mono ?_
      rintro e w1 ⟨rfl, hb1⟩
      have hs1 : Since w w1 := hb1
      clear hb1
      go_wp2_with fail
      go_ret2
      exact ⟨_, rfl, hs1⟩
    have hne : Lib.itoa v ≠ s.data.toList := dg_no h hv0 (by omega)
    have HI : Hid (∀ W, Since w W → Calls Tryz.prog 165 #[.int .i64 v] W fun e w' => ∃ X : ByteArray, e = .returned (.string X) ∧ (X.toList == s.toList) = false ∧ Below W.heap.size W w') := Lib.hid (fun W hW => by
      refine (Tryz.strconv_Itoa v vb0 vb1 W (hP.later hW)).mono ?_
      rintro e w' ⟨rfl, k, os, rfl⟩
      refine ⟨_, rfl, ?_, below_grow _ _ _⟩
      rw [beq_eq_false_iff_ne]
      intro e
      apply hne
      rw [Lib.toList_data, Lib.toList_data] at e
      exact e)
    have hq3 : (s.size : Int) ≤ 4 := by omega
    clear h ha hsz hP hS hne
    go_enter Tryz.func160, Tryz.ntmps160
    trace "A"; go_wp2_with fail
    refine HA.out.mono ?_
    rintro e w1 ⟨rfl, hb1⟩
    have hs1 : Since w w1 := hb1
    trace "B"; go_wp2_with fail
    refine (HI.out _ hs1).mono ?_
    rintro e w2 ⟨X, rfl, hX, hb2⟩
    have hs2 : Since w w2 := hs1.later hb2
    clear hb2
    trace "C"; go_wp2_with fail
    go_ret2
    exact ⟨v, by simp, hs2⟩
  case range =>
    obtain ⟨te, pe, hv⟩ := hS.2
    have HA := Lib.hid (Tryz.strconv_Atoi_range s (by omega) ha _ w hv (Or.inr ⟨te, pe, rfl⟩))
    generalize Lib.atoiSat s.data.toList = sat at *
    clear h ha hsz hP hS hv
    go_enter Tryz.func160, Tryz.ntmps160
    go_wp2_with fail
    refine HA.out.mono ?_
    rintro e w1 ⟨N, rfl, -, -, hb1⟩
    have hs1 : Since w w1 := hb1
    clear hb1
    go_wp2_with fail
    go_ret2
    exact ⟨_, rfl, hs1⟩
  next =>
    obtain ⟨te, pe, hv⟩ := hS.1
    have HA := Lib.hid (Any.strconv_Atoi_syntax Tryz.laysC172 s (by omega) ha _ w hv (Or.inr ⟨te, pe, rfl⟩))
    clear h ha hsz hP hS hv
    go_enter Tryz.func160, Tryz.ntmps160
    go_wp2_with fail
    refine HA.out.mono ?_
    rintro e w1 ⟨N, rfl, -, -, hb1⟩
    have hs1 : Since w w1 := hb1
    clear hb1
    go_wp2_with fail
    go_ret2
    exact ⟨_, rfl, hs1⟩
/-- what numbers answers -/
def NumsOut (o : Option (List Nat)) (w w' : World) (e : Ending) : Prop := match o with
  | none => e = .returned (.tuple #[.slice none 0 0, .bool false])
  | some ns => ∃ A' c', e = .returned (.tuple #[.slice A' ns.length c', .bool true]) ∧ Lst w' 3 1 (.slice A' ns.length c') (ns.map fun (n : Nat) => intRow n) ∧ ∀ q, q ∈ blocks (.slice A' 0 0) → w.heap.size ≤ q
/-- the numbers of words, if each is one -/
theorem pnums (A : Option Addr) (cap : Nat) (L : List ByteArray) (w : World) (hP : PTab w) (hS : STab w) (hlen : L.length ≤ 100000) (hsz : ∀ x ∈ L, x.size ≤ 1000000) (hc : L ≠ [] → ∃ b off, A = some ⟨b, off, none⟩ ∧ b < w.heap.size ∧ ∀ i, i < L.length → w.cell? ⟨b, off + i, none⟩ = some (.string (sth L i))) :
    Calls Tryz.prog 143 #[.slice A L.length cap] w fun e w' => Below w.heap.size w w' ∧ NumsOut (nums (L.map (·.data.toList))) w w' e := by
  have HP := Lib.hid hP
  have HS := Lib.hid hS
  have HZ := Lib.hid hsz
  have HC := Lib.hid hc
  obtain ⟨m, hm⟩ : ∃ m, L.length = m := ⟨_, rfl⟩
  have HM := Lib.hid hm
  have hm2 : m ≤ 100000 := by omega
  rw [hm]
  clear hP hS hsz hc hm hlen
  go_enter Tryz.func143, Tryz.ntmps143
  trace "A"; go_wp2_with fail
  go_loopw [4, 11] (fun s4 s11 wr => ∃ (i : Nat) (A' : Option Addr) (c : Nat) (ns : List Nat), s4 = .slice A' i c ∧ s11 = .int .i64 i ∧ i ≤ m ∧ Hid (nums ((L.take i).map (·.data.toList)) = some ns) ∧ Hid (Lst wr 3 1 (.slice A' i c) (ns.map fun (n : Nat) => intRow n)) ∧ Hid (∀ q, q ∈ blocks (.slice A' 0 0) → w.heap.size ≤ q) ∧ Since w wr) (fun _ s11 _ => m - (intOf s11).toNat)
  case atStart => exact ⟨0, none, 0, [], rfl, rfl, Nat.zero_le _, Lib.hid rfl, Lib.hid (Lst.nil _ _ _), Lib.hid (by simp [Value.ownBlock]), Since.refl _⟩
  case round =>
    obtain ⟨i, A', c, ns, rfl, rfl, hi, HN, HL, HW, hs⟩ := hrel
    have HLEN : Hid (ns.length = i) := Lib.hid (by have := nums_len HN.out; rw [List.length_map, List.length_take, HM.out] at this; omega)
    by_cases hlt : i < m
    case neg =>
      obtain rfl : i = m := by omega
      have hf : decide ((i : Int) < (i : Int)) = false := by simp
      have HT : Hid (nums (L.map (·.data.toList)) = some ns) := Lib.hid (by have := HN.out; rw [List.take_of_length_le (by rw [HM.out]; exact Nat.le_refl _)] at this; exact this)
      trace "B"; go_wp2_with fail
      go_ret2
      refine ⟨hs, ?_⟩
      rw [HT.out]
      unfold NumsOut
      exact ⟨A', c, by rw [HLEN.out]; rfl, by rw [HLEN.out]; exact HL.out, HW.out⟩
    have hlt' : (i : Int) < (m : Int) := by omega
    obtain ⟨b, off, rfl, hbl, hcc⟩ := HC.out (by rintro rfl; have := HM.out; simp at this; omega)
    have ct : wr.cell? ⟨b, off + i, none⟩ = some (.string (sth L i)) := hs.cell hbl (hcc i (by rw [HM.out]; exact hlt))
    have hil : i < L.length := by rw [HM.out]; exact hlt
    have hmem : sth L i ∈ L := by
      unfold sth
      rw [show L.getD i ByteArray.empty = L[i] by simp [List.getD, List.getElem?_eq_getElem hil]]
      exact List.getElem_mem hil
    have htk : Hid ((L.take (i + 1)).map (·.data.toList) = (L.take i).map (·.data.toList) ++ [(sth L i).data.toList]) := Lib.hid (by
      rw [List.take_succ_eq_append_getElem hil, List.map_append]
      unfold sth
      simp [List.getD, List.getElem?_eq_getElem hil])
    have htl : Hid (L.map (·.data.toList) = (L.take (i + 1)).map (·.data.toList) ++ (L.drop (i + 1)).map (·.data.toList)) := Lib.hid (by rw [← List.map_append, List.take_append_drop])
    have hxz := HZ.out _ hmem
    generalize sth L i = x at *
    clear hcc hil hmem
    cases hd : dgN x.data.toList with
    | none =>
      have HD := Lib.hid (pdigit_no x hd hxz wr (HP.out.later hs) (HS.out.later hs))
      have HT : Hid (nums (L.map (·.data.toList)) = none) := Lib.hid (by
        rw [htl.out]
        apply nums_bad
        rw [htk.out, nums_snoc, HN.out, hd])
      clear hd hxz
      trace "C"; go_wp2_with fail
      refine HD.out.mono ?_
      rintro e w1 ⟨k, rfl, hb1⟩
      have hs1 := hs.later hb1
      clear hb1
      trace "D"; go_wp2_with fail
      go_ret2
      refine ⟨hs1, ?_⟩
      rw [HT.out]
      rfl
    | some n =>
      have HD := Lib.hid (pdigit_yes x n hd wr (HP.out.later hs))
      have HN2 : Hid (nums ((L.take (i + 1)).map (·.data.toList)) = some (ns ++ [n])) := Lib.hid (by rw [htk.out, nums_snoc, HN.out, hd])
      have HML : Hid ((ns.map fun (n : Nat) => intRow n).length = i) := Lib.hid (by rw [List.length_map, HLEN.out])
      clear hd hxz
      trace "E"; go_wp2_with fail
      refine HD.out.mono ?_
      rintro e w1 ⟨rfl, hb1⟩
      have hs1 := hs.later hb1
      have HL1 := Lib.hid (HL.out.later hb1)
      clear hb1 HD
      trace "F"; go_wp2_with (at_builtin; refine wpList_push rfl _ _ 22 rfl 3 1 8 Tryz.elInt (.slice A' i c) (ns.map fun (n : Nat) => intRow n) rfl (HL1.out.alloc _) w1.heap.size 1 [.int .i64 n] rfl rfl (intRow_one n).2 (BlockIs.fresh _ _ _) (by rw [HML.out]; omega) ?_; intro q cq w5 hl5 ho5 hq5 hlt5)
      rw [HML.out] at hl5
      have hs5 : Since w w5 := (hs1.alloc _).out' ho5 (fun k hk => HW.out k (by rw [blocks_any A' 0 0 i c]; exact hk))
      have HW5 : Hid (∀ j, j ∈ blocks (.slice (some ⟨q, 0, none⟩) 0 0) → w.heap.size ≤ j) := Lib.hid (fun j hj => by
        have hj' : q = j := by simpa [Value.ownBlock] using hj
        rcases hq5 with h | h
        · rw [← hj']; exact HW.out q (by rw [blocks_any A' 0 0 i c]; exact h)
        · rw [← hj', h]; have := hs1.le; simp; omega)
      have HL5 : Hid (Lst w5 3 1 (.slice (some ⟨q, 0, none⟩) (i + 1) cq) ((ns ++ [n]).map fun (n : Nat) => intRow n)) := Lib.hid (by rw [List.map_append]; exact hl5)
      clear hl5 ho5 hq5 hlt5
      trace "G"; go_wp2_with fail
      go_roundw
      case rel => exact ⟨i + 1, some ⟨q, 0, none⟩, cq, ns ++ [n], by first | rfl | rw [HML.out] | rw [HLEN.out], by go_num, by omega, HN2, HL5, HW5, hs5⟩
      case measure => simp [intOf]; omega
end Go.Proofs.YtmfbaijbigodkaaGreatDoor

/-! run's texts (the bytes of a text in decimal), desk's read, and an error's name, by contracts. Condition: strconv's table of powers lies there; the text has one byte at least and is short. -/
namespace Go.Proofs.YtmfbaijbigodkaaGreatDoor
open Go.ChangeShapes Go.WideShapes Go.ChangeAt Go.RowKit Go.Shelf
set_option linter.unusedVariables false

def wRow (s : ByteArray) : List Value := [.string s]
theorem wRow_one (s : ByteArray) : (wRow s).length = 1 ∧ ∀ u ∈ wRow s, u.oneCell' = true := ⟨rfl, by intro u hu; simp [wRow] at hu; rw [hu]; rfl⟩
theorem Tryz.elWrd : Elem Tryz.prog 24 9 1 16 := ⟨Tryz.underlying24, ⟨.string ⟨#[]⟩, rfl, by kernel_rfl⟩, by decide, by decide⟩
/-- the numerals of bytes -/
def itas (l : List UInt8) : List ByteArray := l.map fun x => ita (x.toNat : Int)
theorem itas_len (l : List UInt8) : (itas l).length = l.length := by unfold itas; rw [List.length_map]
theorem itas_lists (l : List UInt8) : (itas l).map (·.data.toList) = l.map fun b => Lib.itoa (b.toNat : Int) := by
  unfold itas
  rw [List.map_map]
  apply List.map_congr_left
  intro b _
  show (ita (b.toNat : Int)).data.toList = _
  unfold ita
  simp
theorem lens_few : ∀ (L : List (List UInt8)), (∀ x ∈ L, x.length ≤ 10) → Lib.lens L ≤ 10 * L.length
  | [], _ => Nat.le_refl _
  | x :: r, h => by
    have h1 := h x (by simp)
    have h2 := lens_few r (fun y hy => h y (by simp [hy]))
    unfold Lib.lens at h2 ⊢
    rw [List.map_cons, List.sum_cons, List.length_cons]
    omega
theorem tells_few (l : List UInt8) : (tells l).length ≤ 11 * l.length := by
  unfold tells
  cases l with
  | nil => simp [Lib.join_nil]
  | cons b r =>
    rw [List.map_cons, Lib.join_length]
    have h := lens_few ((b :: r).map fun b => Lib.itoa (b.toNat : Int)) (fun x hx => by
      obtain ⟨c, _, rfl⟩ := List.mem_map.1 hx
      have h1 := ita_size (n := (c.toNat : Int)) (by omega) (by have := c.toNat_lt; omega)
      have h2 : (ita (c.toNat : Int)).size = (Lib.itoa (c.toNat : Int)).length := by show (Lib.itoa (c.toNat : Int)).toArray.size = _; simp
      omega)
    rw [List.map_cons] at h
    simp only [List.length_cons, List.length_map, List.length_nil] at h ⊢
    omega
set_option maxHeartbeats 1600000 in
theorem ptexts (b : ByteArray) (h1 : 1 ≤ b.size) (h2 : b.size ≤ 1000) (w : World) (hP : PTab w) :
    Calls Tryz.prog 163 #[.string b] w fun e w' => e = .returned (.string ⟨(tells b.data.toList).toArray⟩) ∧ Below w.heap.size w w' := by
  have HP := Lib.hid hP
  have hcv := Lib.run_convert_string_bytes (P := Tryz.prog) w 9 131 5 b (u := .string) Tryz.underlying9 Tryz.underlying131 Tryz.underlying5
  have hS1 : Since w (Lib.bytesWorld w 5 b) := Lib.bytesWorld_below _ _ _
  have hB : ∀ j, j < b.size → (Lib.bytesWorld w 5 b).cell? ⟨w.heap.size, j, none⟩ = some (.int .u8 (b.data.toList.getD j 0).toNat) := fun j hj => Lib.bytesWorld_cell w _ _ j hj
  have hlt : w.heap.size < (Lib.bytesWorld w 5 b).heap.size := by rw [Lib.bytesWorld_size]; omega
  obtain ⟨W1, hW1⟩ : ∃ W1, W1 = Lib.bytesWorld w 5 b := ⟨_, rfl⟩
  rw [← hW1] at hcv hS1 hB hlt
  have HB := Lib.hid hB
  have HLN : Hid (b.data.toList.length = b.size) := Lib.hid (by rw [Array.length_toList]; rfl)
  obtain ⟨l, hl⟩ : ∃ l, b.data.toList = l := ⟨_, rfl⟩
  rw [hl] at HB HLN
  rw [hl]
  obtain ⟨n, hn⟩ : ∃ n, b.size = n := ⟨_, rfl⟩
  rw [hn] at HB HLN hcv h1 h2
  clear hW1 hB hP hl hn
  have hnn : (n : Int) ≤ 1000 := by omega
  generalize grownCap w n 0 5 = gc at *
  go_enter Tryz.func163, Tryz.ntmps163
  trace "A"; go_wp2_with fail
  obtain ⟨wo, rfl⟩ : ∃ wo : World, wo = W1 := ⟨_, rfl⟩
  go_loopw [3, 9] (fun s3 s9 wr => ∃ (i : Nat) (A : Option Addr) (c : Nat), s3 = .slice A i c ∧ s9 = .int .i64 i ∧ i ≤ n ∧ Hid (Lst wr 9 1 (.slice A i c) ((itas (l.take i)).map wRow)) ∧ Hid (∀ q, q ∈ blocks (.slice A 0 0) → wo.heap.size ≤ q) ∧ Since wo wr) (fun _ s9 _ => n - (intOf s9).toNat)
  case atStart => exact ⟨0, none, 0, rfl, rfl, Nat.zero_le _, Lib.hid (Lst.nil _ _ _), Lib.hid (by simp [Value.ownBlock]), Since.refl _⟩
  case round =>
    obtain ⟨i, A, c, rfl, rfl, hi, HL, HW, hs⟩ := hrel
    have hsw : Since w wr := hS1.later hs
    by_cases hi2 : i < n
    case neg =>
      obtain rfl : i = n := by omega
      have hf : decide ((i : Int) < (i : Int)) = false := by simp
      have htk : l.take i = l := List.take_of_length_le (by rw [HLN.out]; exact Nat.le_refl _)
      have HL2 : Hid (Lst wr 9 1 (.slice A i c) ((itas l).map wRow)) := Lib.hid (by rw [← htk]; exact HL.out)
      obtain ⟨A2, c2, he, hle, hmx, hA⟩ := HL2.out.shape
      rw [List.length_map, itas_len, HLN.out] at he hle
      injection he with e1 _ e3
      subst e1 e3
      rcases hA with ⟨-, h, -⟩ | ⟨q, rfl⟩
      · exfalso
        have := congrArg List.length h
        rw [List.length_map, itas_len, HLN.out] at this
        simp at this
        omega
      have HJ := Lib.hid (Tryz.strings_Join q 0 c (itas l) ⟨#[32]⟩ wr (fun j x hx => by
        have := HL2.out.cell rfl (i := j) (j := 0) (e := wRow x) (u := .string x) (by rw [List.getElem?_map, hx]; rfl) rfl
        simpa using this) (by
        have := HL2.out.cell rfl (i := 0) (j := 0) (e := wRow ((itas l).getD 0 ByteArray.empty)) (u := .string ((itas l).getD 0 ByteArray.empty)) (by
          rw [List.getElem?_map]
          have : 0 < (itas l).length := by rw [itas_len, HLN.out]; omega
          simp [List.getD, List.getElem?_eq_getElem this]) rfl
        exact World.block_lt_of_cell? wr _ this) (by rw [itas_len, HLN.out]; omega) (by rw [itas_len, HLN.out]; exact hle) (by
        rw [itas_lists]
        have := tells_few l
        rw [HLN.out] at this
        show (tells l).length ≤ _
        omega))
      rw [itas_len, HLN.out] at HJ
      have HT : Hid (Lib.join ((itas l).map (·.data.toList)) (⟨#[32]⟩ : ByteArray).data.toList = tells l) := Lib.hid (by rw [itas_lists]; rfl)
      rw [HT.out] at HJ
      clear htk hle hmx
      trace "B"; go_wp2_with fail
      refine HJ.out.mono ?_
      rintro e w2 ⟨rfl, hb2⟩
      have hs2 : Since w w2 := hsw.later hb2
      trace "C"; go_wp2_with fail
      go_ret
      exact ⟨rfl, hs2⟩
    have hi3 : (i : Int) < (n : Int) := by omega
    have ct : wr.cell? ⟨w.heap.size, i, none⟩ = some (.int .u8 (l.getD i 0).toNat) := hs.cell hlt (HB.out i hi2)
    have hil : i < l.length := by rw [HLN.out]; exact hi2
    have HTK : Hid (itas (l.take (i + 1)) = itas (l.take i) ++ [ita ((l.getD i 0).toNat : Int)]) := Lib.hid (by
      unfold itas
      rw [List.take_succ_eq_append_getElem hil, List.map_append]
      simp [List.getD, List.getElem?_eq_getElem hil])
    have hc0 : (0 : Int) ≤ ((l.getD i 0).toNat : Int) := by omega
    have hc1 : ((l.getD i 0).toNat : Int) ≤ 255 := by have := (l.getD i 0).toNat_lt; omega
    generalize ((l.getD i 0).toNat : Int) = z at *
    have hwr : IntKind.i64.wrap z = z := IntWalk.i64_in (by omega) (by omega)
    have HI := Lib.hid (itoaC z hc0 (by omega) wr (HP.out.later hsw))
    have HML : Hid (((itas (l.take i)).map wRow).length = i) := Lib.hid (by rw [List.length_map, itas_len, List.length_take]; omega)
    clear hil
    generalize ita z = X at *
    trace "D"; go_wp2_with fail
    refine HI.out.mono ?_
    rintro e w1 ⟨rfl, hb1⟩
    have hs1 : Since wo w1 := hs.later hb1
    have HL1 := Lib.hid (HL.out.later hb1)
    clear hb1 HI ct
    trace "E"; go_wp2_with (at_builtin; refine wpList_push rfl _ _ 24 rfl 9 1 16 Tryz.elWrd (.slice A i c) ((itas (l.take i)).map wRow) rfl (HL1.out.alloc _) w1.heap.size 1 [.string X] rfl rfl (wRow_one X).2 (BlockIs.fresh _ _ _) (by rw [HML.out]; omega) ?_; intro q cq w5 hl5 ho5 hq5 hlt5)
    rw [HML.out] at hl5
    have hs5 : Since wo w5 := (hs1.alloc _).out' ho5 (fun k hk => HW.out k (by rw [blocks_any A 0 0 i c]; exact hk))
    have HW5 : Hid (∀ j, j ∈ blocks (.slice (some ⟨q, 0, none⟩) 0 0) → wo.heap.size ≤ j) := Lib.hid (fun j hj => by
      have hj' : q = j := by simpa [Value.ownBlock] using hj
      rcases hq5 with h | h
      · rw [← hj']; exact HW.out q (by rw [blocks_any A 0 0 i c]; exact h)
      · rw [← hj', h]; have := hs1.le; simp; omega)
    have HL5 : Hid (Lst w5 9 1 (.slice (some ⟨q, 0, none⟩) (i + 1) cq) ((itas (l.take (i + 1))).map wRow)) := Lib.hid (by rw [HTK.out, List.map_append]; exact hl5)
    clear hl5 ho5 hq5 hlt5
    trace "F"; go_wp2_with fail
    go_roundw
    case rel => exact ⟨i + 1, some ⟨q, 0, none⟩, cq, by first | rfl | rw [HML.out] | rw [itas_len, List.length_take, Nat.min_eq_left (by rw [HLN.out]; omega)], by go_num, by omega, HL5, HW5, hs5⟩
    case measure => simp [intOf]; omega
theorem Own.leaves {w0 w : World} {S0 : List Nat} {L : List Thing} (h : Own w0 S0 w L) (i : Nat) {t : Thing} (hi : L[i]? = some t) : Leaves w0 w S0 t := by
  obtain ⟨own, ho⟩ := h.has
  obtain ⟨S, h1, h2⟩ := ho i t hi
  exact ⟨S, h1, h.out, fun k hk => (h2 k hk).2⟩
theorem not_empty {X : ByteArray} (h : ¬ X = ⟨#[]⟩) : X.toList.isEmpty = false := by
  rw [Lib.toList_data]
  cases hl : X.data.toList with
  | nil =>
    exfalso
    apply h
    apply ByteArray.ext
    exact Array.toList_inj.1 hl
  | cons _ _ => rfl
/-- desk's read -/
theorem pread (g : Nat) (s : TkS) (who n : Int) (w : World) (S : List Nat) (h : (talkT g s).is w S) :
    Calls Tryz.prog 161 #[.agg #[.pointer (some ⟨g, 0, none⟩)], .int .i64 who, .int .i64 n] w fun e w' => e = .returned (.tuple #[.string (if s.readS who n = ⟨#[]⟩ then bDash else s.readS who n), errV (TkS.readE who n)]) ∧ Leaves w w' S (talkT g (s.read who n)) := by
  have HO := Lib.hid ((Own.opened h).alloc 129 #[.pointer (some ⟨g, 0, none⟩)])
  obtain ⟨E, hE⟩ : ∃ E, (if s.readS who n = ⟨#[]⟩ then bDash else s.readS who n) = E := ⟨_, rfl⟩
  rw [hE]
  have HE := Lib.hid hE
  obtain ⟨S1, hS1, up⟩ := HO.out.at_ 0 rfl
  have HR := Lib.hid (tread g s who n _ S1 hS1)
  have HU := Lib.hid up
  clear h hE hS1 up
  generalize s.readS who n = X at *
  generalize TkS.readE who n = e0 at *
  go_enter Tryz.func161, Tryz.ntmps161
  trace "A"; go_wp2_with fail
  refine HR.out.mono ?_
  rintro e w1 ⟨rfl, hl⟩
  have HO1 := Lib.hid (HU.out _ _ hl)
  clear hl
  by_cases hx : X = ⟨#[]⟩
  · have hq : E = ⟨#[45]⟩ := by rw [← HE.out, if_pos hx]; rfl
    subst hx hq
    trace "B"; go_wp2_with fail
    go_ret2
    exact ⟨rfl, HO1.out.leaves 0 rfl⟩
  · have hq : E = X := by rw [← HE.out, if_neg hx]
    have hx2 : X.toList.isEmpty = false := not_empty hx
    subst hq
    clear hx
    trace "C"; go_wp2_with fail
    go_ret2
    exact ⟨rfl, HO1.out.leaves 0 rfl⟩
end Go.Proofs.YtmfbaijbigodkaaGreatDoor

/-! Maps keyed by strings, whatever their elements: what a block of one tells, and the operations on it. No condition of its own. -/
namespace Go.Proofs.YtmfbaijbigodkaaGreatDoor
open Go.ChangeShapes Go.WideShapes Go.ChangeAt Go.RowKit
open Go.Maps (Keyed)
set_option linter.unusedVariables false

/-- an element read as it stands -/
def anyElem (v : Value) : Option (DataW Value × List MemPlace) := some (.held v, [])
/-- block b is a map keyed by strings: f tells what is at each, n are there -/
def MapS (w : World) (P : Program) (K : TypeId) (b : Nat) (f : List UInt8 → Option Value) (n : Nat) : Prop :=
  ∃ D : DataW Value, w.ownsMap P K anyElem b n D ∧ Maps.size D = n ∧ (∀ k : List UInt8, Maps.has D (.string k) = (f k).isSome) ∧ ∀ (k : List UInt8) v, f k = some v → ∀ z, D.atKey (.string k) z = .held v

variable {P : Program} {K : TypeId} {w w1 : World} {b n : Nat} {f : List UInt8 → Option Value}
theorem ownsMap_exact {D : DataW Value} (h : w.ownsMap P K anyElem b n D) : w.ownsMap P K anyElem b (Maps.size D) D := by
  obtain ⟨es, clock, hb, F, hs, rfl⟩ := h
  exact ⟨es, clock, hb, F, by simp [Maps.size, length_sorted], rfl⟩
theorem MapS.made (w : World) (P : Program) (K : TypeId) : MapS (w.alloc (.map #[] 0)) P K w.heap.size (fun _ => none) 0 :=
  ⟨.map [], World.ownsMap_made w P K anyElem, rfl, fun _ => rfl, fun _ _ h => by cases h⟩
theorem MapS.lt (h : MapS w P K b f n) : b < w.heap.size := by
  obtain ⟨D, h, _⟩ := h
  exact h.lt
theorem MapS.kept {row : Option Nat} (h : MapS w P K b f n) (hg : w.grownBy w1 row) (hne : some b ≠ row) : MapS w1 P K b f n := by
  obtain ⟨D, h, r⟩ := h
  exact ⟨D, h.kept hg hne, r⟩
theorem MapS.alloc (h : MapS w P K b f n) (o : Obj) : MapS (w.alloc o) P K b f n := h.kept (World.grownBy_alloc w o none) (by simp)
theorem MapS.drew (h : MapS w P K b f n) : MapS w.drew P K b f n := h
theorem MapS.drewN (h : MapS w P K b f n) (m : Nat) : MapS (w.drewN m) P K b f n := h
theorem MapS.later (h : MapS w P K b f n) (hb : Below w.heap.size w w1) : MapS w1 P K b f n :=
  h.kept (row := none) ⟨hb.os, hb.tape, hb.output, hb.size, fun i hi _ => hb.block i hi⟩ (by simp)
theorem MapS.only {g : Nat} (h : MapS w P K b f n) (k : Only w w1 g) (hne : b ≠ g) : MapS w1 P K b f n := h.kept k (by simpa using hne)
theorem MapS.set (h : MapS w P K b f n) {p : Addr} (hne : b ≠ p.block) (u : Value) : MapS (w.setCell p u) P K b f n := by
  obtain ⟨D, h, r⟩ := h
  exact ⟨D, h.setCell hne u, r⟩

theorem keyS (hK : P.underlying K = some .string) {k : List UInt8} (hw : k.length ≤ maxLen) : keyOf P K (.string ⟨k.toArray⟩) = some (.string k) := by
  have e : (⟨k.toArray⟩ : ByteArray).size = k.length := by show k.toArray.size = _; simp
  simp [keyOf, hK, mapKey, e, hw]

theorem MapS.look (h : MapS w P K b f n) (hK : P.underlying K = some .string) {T E : TypeId} (hT : P.underlying T = some (.map K E)) {z : Value} (hz : (zeroValue E).run P w = .ok z w) {k : List UInt8} (hw : k.length ≤ maxLen) {r : Option Value} (hr : f k = r) :
    (Instr.lookup T (.map (some b)) (.string ⟨k.toArray⟩) true).run P w = .ok (.tuple #[r.getD z, .bool r.isSome]) w := by
  subst hr
  obtain ⟨D, ho, _, hh, ha⟩ := h
  obtain ⟨v, ps, hrun, hv⟩ := ho.look_ok (Maps.string_keyed hK) hT hz (zd := .held z) (zp := []) rfl (keyS hK hw)
  rw [hrun, hh k]
  have hv' : (DataW.held v : DataW Value) = D.atKey (.string k) (.held z) := by
    unfold anyElem at hv
    simp only [Option.some.injEq, Prod.mk.injEq] at hv
    exact hv.1
  cases hf : f k with
  | none =>
    have hno : Maps.has D (.string k) = false := by rw [hh k, hf]; rfl
    rw [Maps.atKey_of_not_has hno] at hv'
    injection hv' with hv'
    rw [hv']
    rfl
  | some u =>
    rw [ha k u hf] at hv'
    injection hv' with hv'
    rw [hv']
    rfl
/-- f with v at k -/
def putS (f : List UInt8 → Option Value) (k : List UInt8) (v : Value) (j : List UInt8) : Option Value := if j = k then some v else f j
theorem MapS.store (h : MapS w P K b f n) (hK : P.underlying K = some .string) {T E : TypeId} (hT : P.underlying T = some (.map K E)) (hn : n < maxLen) {k : List UInt8} (hw : k.length ≤ maxLen) (v : Value) :
    ∃ w', (Instr.mapUpdate T (.map (some b)) (.string ⟨k.toArray⟩) v).run P w = .ok () w' ∧ MapS w' P K b (putS f k v) (if (f k).isSome then n else n + 1) ∧ w.mapTurned w' b := by
  obtain ⟨D, ho, hs, hh, ha⟩ := h
  obtain ⟨w', hrun, ho', ht⟩ := ho.store (Maps.string_keyed hK) hT hn (keyS hK hw) (show anyElem v = some (.held v, []) from rfl)
  have hm := ho.isMap
  have hsz : Maps.size (D.put (.string k) (.held v)) = if (f k).isSome then n else n + 1 := by
    rw [Maps.size_put (ho.tidy (Maps.string_keyed hK)), hh k, hs]
  refine ⟨w', hrun, ⟨D.put (.string k) (.held v), by rw [← hsz]; exact ownsMap_exact ho', hsz, fun j => ?_, fun j u hj z => ?_⟩, ht⟩
  · unfold putS
    split
    · rename_i e
      subst e
      rw [Maps.has_put_same hm (show WideAt.IsKeyLit (.string j) from trivial)]
      rfl
    · rename_i e
      rw [Maps.has_put_other (by intro h; injection h with h; exact e h), hh j]
  · unfold putS at hj
    split at hj
    · rename_i e
      subst e
      injection hj with hj
      rw [Maps.atKey_put_same hm (show WideAt.IsKeyLit (.string j) from trivial), hj]
    · rename_i e
      rw [Maps.atKey_put_other (by intro h; injection h with h; exact e h)]
      exact ha j u hj z
theorem MapS.len (h : MapS w P K b f n) {T E : TypeId} (hT : P.underlying T = some (.map K E)) (ty : TypeId) : (Builtin.len_ #[T] ty #[.map (some b)]).run P w = .ok (.int .i64 n) w := by
  obtain ⟨D, ho, hs, _⟩ := h
  rw [ho.len hT ty, hs]
theorem turned_only {w w' : World} {b : Nat} (h : w.mapTurned w' b) : Only w w' b := h.grown

/-! at the operation, for the walk -/
section
variable {ops : Array Oper} {rest : List Oper} {o : Oper} {a : Act} {Q : Exit → Act → World → Prop}
theorem wpList_look_S (w : World) (hg : o.guard = none) (m x : Operand) (T : TypeId) (hop : o.op = Op.lookup T m x true)
    (K E : TypeId) (hK : P.underlying K = some .string) (hT : P.underlying T = some (.map K E)) {z : Value} (hz : (zeroValue E).run P w = .ok z w) (b n : Nat) (f : List UInt8 → Option Value)
    (hm : a.eval m = .map (some b)) (hown : MapS w P K b f n) (k : List UInt8) (hx : a.eval x = .string ⟨k.toArray⟩) (hw : k.length ≤ maxLen) (r : Option Value) (hr : f k = r)
    (hk : wpList P ops Q rest (a.put o.dst (.tuple #[r.getD z, .bool r.isSome])) w) : wpList P ops Q (o :: rest) a w := by
  refine wpList_plain hg fun K' hK' => ?_
  have hrun := hown.look hK hT hz hw hr
  unfold Oper.wp
  simp [execOp, hop, hm, hx, hrun, Result.andThen]
  exact hK' _ _ hk
theorem wpList_insert_S (w : World) (hg : o.guard = none) (m x v : Operand) (T : TypeId) (hop : o.op = Op.insert T m x v)
    (K E : TypeId) (hK : P.underlying K = some .string) (hT : P.underlying T = some (.map K E)) (b n : Nat) (f : List UInt8 → Option Value)
    (hm : a.eval m = .map (some b)) (hown : MapS w P K b f n) (hn : n < maxLen) (k : List UInt8) (val : Value) (hx : a.eval x = .string ⟨k.toArray⟩) (hv : a.eval v = val) (hw : k.length ≤ maxLen)
    (hk : ∀ w', MapS w' P K b (putS f k val) (if (f k).isSome then n else n + 1) → w.mapTurned w' b → wpList P ops Q rest (a.put o.dst undef) w') : wpList P ops Q (o :: rest) a w := by
  refine wpList_plain hg fun K' hK' => ?_
  obtain ⟨w', hrun, r1, r2⟩ := hown.store hK hT hn hw val
  unfold Oper.wp
  simp [execOp, hop, hm, hx, hv, hrun, Result.andThen]
  exact hK' _ _ (hk w' r1 r2)
end
end Go.Proofs.YtmfbaijbigodkaaGreatDoor

/-! run.wants: how many numbers each word wants, by a contract. No condition. -/
namespace Go.Proofs.YtmfbaijbigodkaaGreatDoor
open Go.ChangeShapes Go.WideShapes Go.ChangeAt Go.RowKit
set_option linter.unusedVariables false

theorem Tryz.wantMap : Tryz.prog.underlying 209 = some (.map 9 3) := Tryz.underlying209
/-- what wants says of a word -/
def wantF (x : List UInt8) : Option Value := (manyOf x).map fun (m : Nat) => .int .i64 m
theorem nd (x : List UInt8) (v : Option Value) : (if x = wNeed then some (Value.int .i64 2) else if x = wVarint then some (.int .i64 1) else if x = wCount then some (.int .i64 0) else if x = wRead then some (.int .i64 2) else if x = wTwice then some (.int .i64 1) else if x = wLose then some (.int .i64 1) else if x = wCome then some (.int .i64 1) else if x = wSend then some (.int .i64 1) else if x = wWrite then some (.int .i64 1) else none) = wantF x := by
  unfold wantF manyOf
  by_cases h1 : x = wWrite
  · subst h1; rfl
  by_cases h2 : x = wSend
  · subst h2; rfl
  by_cases h3 : x = wCome
  · subst h3; rfl
  by_cases h4 : x = wLose
  · subst h4; rfl
  by_cases h5 : x = wTwice
  · subst h5; rfl
  by_cases h6 : x = wRead
  · subst h6; rfl
  by_cases h7 : x = wCount
  · subst h7; rfl
  by_cases h8 : x = wVarint
  · subst h8; rfl
  by_cases h9 : x = wNeed
  · subst h9; rfl
  simp [h1, h2, h3, h4, h5, h6, h7, h8, h9]
set_option maxRecDepth 100000 in
set_option maxHeartbeats 1600000 in
theorem pwants (w : World) : Calls Tryz.prog 142 #[] w fun e w' => ∃ b, e = .returned (.map (some b)) ∧ MapS w' Tryz.prog 9 b wantF 9 ∧ Since w w' := by
  have hmm := @run_makeMap Tryz.prog
  have M0 := Lib.hid (MapS.made w Tryz.prog 9)
  go_enter Tryz.func142, Tryz.ntmps142
  have N0 : 0 < maxLen := by unfold maxLen; omega
  have N1 : 1 < maxLen := by unfold maxLen; omega
  have N2 : 2 < maxLen := by unfold maxLen; omega
  have N3 : 3 < maxLen := by unfold maxLen; omega
  have N4 : 4 < maxLen := by unfold maxLen; omega
  have N5 : 5 < maxLen := by unfold maxLen; omega
  have N6 : 6 < maxLen := by unfold maxLen; omega
  have N7 : 7 < maxLen := by unfold maxLen; omega
  have N8 : 8 < maxLen := by unfold maxLen; omega
  go_wp2_with (first
    | (refine wpList_insert_S _ rfl _ _ _ 209 rfl 9 3 Tryz.underlying9 Tryz.wantMap w.heap.size 0 _ rfl M0.out N0 wWrite (.int .i64 1) rfl rfl (by decide) ?_; intro w1 h1 t1; have M1 : Hid (MapS w1 Tryz.prog 9 w.heap.size (putS (fun _ => none) wWrite (.int .i64 1)) 1) := Lib.hid h1; have O1 := turned_only t1; clear h1 t1)
    | (refine wpList_insert_S _ rfl _ _ _ 209 rfl 9 3 Tryz.underlying9 Tryz.wantMap w.heap.size 1 _ rfl M1.out N1 wSend (.int .i64 1) rfl rfl (by decide) ?_; intro w2 h2 t2; have M2 : Hid (MapS w2 Tryz.prog 9 w.heap.size (putS (putS (fun _ => none) wWrite (.int .i64 1)) wSend (.int .i64 1)) 2) := Lib.hid h2; have O2 := turned_only t2; clear h2 t2)
    | (refine wpList_insert_S _ rfl _ _ _ 209 rfl 9 3 Tryz.underlying9 Tryz.wantMap w.heap.size 2 _ rfl M2.out N2 wCome (.int .i64 1) rfl rfl (by decide) ?_; intro w3 h3 t3; have M3 : Hid (MapS w3 Tryz.prog 9 w.heap.size (putS (putS (putS (fun _ => none) wWrite (.int .i64 1)) wSend (.int .i64 1)) wCome (.int .i64 1)) 3) := Lib.hid h3; have O3 := turned_only t3; clear h3 t3)
    | (refine wpList_insert_S _ rfl _ _ _ 209 rfl 9 3 Tryz.underlying9 Tryz.wantMap w.heap.size 3 _ rfl M3.out N3 wLose (.int .i64 1) rfl rfl (by decide) ?_; intro w4 h4 t4; have M4 : Hid (MapS w4 Tryz.prog 9 w.heap.size (putS (putS (putS (putS (fun _ => none) wWrite (.int .i64 1)) wSend (.int .i64 1)) wCome (.int .i64 1)) wLose (.int .i64 1)) 4) := Lib.hid h4; have O4 := turned_only t4; clear h4 t4)
    | (refine wpList_insert_S _ rfl _ _ _ 209 rfl 9 3 Tryz.underlying9 Tryz.wantMap w.heap.size 4 _ rfl M4.out N4 wTwice (.int .i64 1) rfl rfl (by decide) ?_; intro w5 h5 t5; have M5 : Hid (MapS w5 Tryz.prog 9 w.heap.size (putS (putS (putS (putS (putS (fun _ => none) wWrite (.int .i64 1)) wSend (.int .i64 1)) wCome (.int .i64 1)) wLose (.int .i64 1)) wTwice (.int .i64 1)) 5) := Lib.hid h5; have O5 := turned_only t5; clear h5 t5)
    | (refine wpList_insert_S _ rfl _ _ _ 209 rfl 9 3 Tryz.underlying9 Tryz.wantMap w.heap.size 5 _ rfl M5.out N5 wRead (.int .i64 2) rfl rfl (by decide) ?_; intro w6 h6 t6; have M6 : Hid (MapS w6 Tryz.prog 9 w.heap.size (putS (putS (putS (putS (putS (putS (fun _ => none) wWrite (.int .i64 1)) wSend (.int .i64 1)) wCome (.int .i64 1)) wLose (.int .i64 1)) wTwice (.int .i64 1)) wRead (.int .i64 2)) 6) := Lib.hid h6; have O6 := turned_only t6; clear h6 t6)
    | (refine wpList_insert_S _ rfl _ _ _ 209 rfl 9 3 Tryz.underlying9 Tryz.wantMap w.heap.size 6 _ rfl M6.out N6 wCount (.int .i64 0) rfl rfl (by decide) ?_; intro w7 h7 t7; have M7 : Hid (MapS w7 Tryz.prog 9 w.heap.size (putS (putS (putS (putS (putS (putS (putS (fun _ => none) wWrite (.int .i64 1)) wSend (.int .i64 1)) wCome (.int .i64 1)) wLose (.int .i64 1)) wTwice (.int .i64 1)) wRead (.int .i64 2)) wCount (.int .i64 0)) 7) := Lib.hid h7; have O7 := turned_only t7; clear h7 t7)
    | (refine wpList_insert_S _ rfl _ _ _ 209 rfl 9 3 Tryz.underlying9 Tryz.wantMap w.heap.size 7 _ rfl M7.out N7 wVarint (.int .i64 1) rfl rfl (by decide) ?_; intro w8 h8 t8; have M8 : Hid (MapS w8 Tryz.prog 9 w.heap.size (putS (putS (putS (putS (putS (putS (putS (putS (fun _ => none) wWrite (.int .i64 1)) wSend (.int .i64 1)) wCome (.int .i64 1)) wLose (.int .i64 1)) wTwice (.int .i64 1)) wRead (.int .i64 2)) wCount (.int .i64 0)) wVarint (.int .i64 1)) 8) := Lib.hid h8; have O8 := turned_only t8; clear h8 t8)
    | (refine wpList_insert_S _ rfl _ _ _ 209 rfl 9 3 Tryz.underlying9 Tryz.wantMap w.heap.size 8 _ rfl M8.out N8 wNeed (.int .i64 2) rfl rfl (by decide) ?_; intro w9 h9 t9; have M9 : Hid (MapS w9 Tryz.prog 9 w.heap.size (putS (putS (putS (putS (putS (putS (putS (putS (putS (fun _ => none) wWrite (.int .i64 1)) wSend (.int .i64 1)) wCome (.int .i64 1)) wLose (.int .i64 1)) wTwice (.int .i64 1)) wRead (.int .i64 2)) wCount (.int .i64 0)) wVarint (.int .i64 1)) wNeed (.int .i64 2)) 9) := Lib.hid h9; have O9 := turned_only t9; clear h9 t9))
  go_ret
  refine ⟨w.heap.size, rfl, ?_, (by refine Since.out ?_; repeat (first | with_reducible assumption | with_reducible exact Since.refl _ | with_reducible refine Since.later ?_ (by with_reducible assumption) | with_reducible refine Since.only ?_ (by with_reducible assumption) (by first | assumption | omega | (simp; done) | (simp; omega)) | with_reducible refine Since.alloc ?_ _ | with_reducible refine Since.drewN ?_ _ | with_reducible refine Since.drew ?_ | with_reducible refine Since.set ?_ (by first | assumption | omega | (simp; done) | (simp; omega)) _))⟩
  have e : (putS (putS (putS (putS (putS (putS (putS (putS (putS (fun _ => none) wWrite (.int .i64 1)) wSend (.int .i64 1)) wCome (.int .i64 1)) wLose (.int .i64 1)) wTwice (.int .i64 1)) wRead (.int .i64 2)) wCount (.int .i64 0)) wVarint (.int .i64 1)) wNeed (.int .i64 2)) = wantF := funext fun x => nd x none
  rw [← e]
  exact M9.out
end Go.Proofs.YtmfbaijbigodkaaGreatDoor

/-! errors.As at the target run.bad: a struct over an error is taken, an Errno is not; after the contract at the target api.Errno. Condition: errors.errorType holds its handle. -/
namespace Go.Proofs.YtmfbaijbigodkaaGreatDoor
open Go.ChangeShapes Go.WideShapes Go.ChangeAt Go.RowKit Go.Extern.Stop Go.Stop Go.Extern
set_option linter.unusedVariables false

theorem Tryz.bdValueOf (t : Addr) (w : World) : (ReflectliteValue.unpack (.iface 176 (.pointer (some t)))).run Tryz.prog w
    = .ok (.agg #[.pointer (some ⟨12, 176, none⟩), .pointer (some ⟨w.heap.size, 0, none⟩), .int .u64 150]) (w.alloc (.cells #[.pointer (some t)] 176)) := by kernel_rfl
theorem Tryz.bdType (a : Addr) (w : World) : (ReflectliteValue.methodAny (ReflectliteValue.valueError "reflectlite.Value.Type" 0) (fun t _ _ _ => ReflectliteType.toType t) #[.agg #[.pointer (some ⟨12, 176, none⟩), .pointer (some a), .int .u64 150]]).run Tryz.prog w
    = .ok (.iface 216 (.agg #[.pointer (some ⟨12, 176, none⟩)])) w := by kernel_rfl
theorem Tryz.bdKindP (w : World) : ((ReflectliteType.abiMethod fun t => (fun a : Nat => Value.int IntKind.u8 (a : Int)) <$> Rtype.kind t) #[.pointer (some ⟨12, 176, none⟩)]).run Tryz.prog w = .ok (.int .u8 22) w := by kernel_rfl
theorem Tryz.bdKindE (w : World) : ((ReflectliteType.abiMethod fun t => (fun a : Nat => Value.int IntKind.u8 (a : Int)) <$> Rtype.kind t) #[.pointer (some ⟨12, 175, none⟩)]).run Tryz.prog w = .ok (.int .u8 25) w := by kernel_rfl
theorem Tryz.bdPartsP (a : Addr) (w : World) : (ReflectliteValue.parts (.agg #[.pointer (some ⟨12, 176, none⟩), .pointer (some a), .int .u64 150])).run Tryz.prog w = .ok (some (176, a, 150)) w := by kernel_rfl
theorem Tryz.bdIsNil (a p : Addr) (W : World) (ha : W.cell? a = some (.pointer (some p))) :
    (ReflectliteValue.method (ReflectliteValue.valueError "reflectlite.Value.IsNil" 0) ReflectliteValue.isNil #[.agg #[.pointer (some ⟨12, 176, none⟩), .pointer (some a), .int .u64 150]]).run Tryz.prog W = .ok (.bool false) W := by
  rw [as_rlm]
  simp only [Sem.run_bind, Tryz.bdPartsP, Result.andThen]
  simp [ReflectliteValue.isNil, loadVar, isAgg, underlying, Tryz.underlying176, ha, Result.andThen]
theorem Tryz.bdElem (w : World) : (ReflectliteType.method ReflectliteType.elem #[.agg #[.pointer (some ⟨12, 176, none⟩)]]).run Tryz.prog w = .ok (.iface 216 (.agg #[.pointer (some ⟨12, 175, none⟩)])) w := by kernel_rfl
theorem Tryz.bdImplements (w : World) : (ReflectliteType.relation "Implements" ReflectliteType.implements_ #[.agg #[.pointer (some ⟨12, 175, none⟩)], .iface 216 (.agg #[.pointer (some ⟨12, 27, none⟩)])]).run Tryz.prog w = .ok (.bool true) w := by kernel_rfl
theorem Tryz.bdTypeOf (v : Value) (w : World) : (ReflectliteType.typeOf #[.iface 175 v]).run Tryz.prog w = .ok (.iface 216 (.agg #[.pointer (some ⟨12, 175, none⟩)])) w := by kernel_rfl
theorem Tryz.bdAssignable (w : World) : (ReflectliteType.relation "AssignableTo" ReflectliteType.assignableTo #[.agg #[.pointer (some ⟨12, 175, none⟩)], .iface 216 (.agg #[.pointer (some ⟨12, 175, none⟩)])]).run Tryz.prog w = .ok (.bool true) w := by kernel_rfl
theorem Tryz.bdNotAssignable (w : World) : (ReflectliteType.relation "AssignableTo" ReflectliteType.assignableTo #[.agg #[.pointer (some ⟨12, 84, none⟩)], .iface 216 (.agg #[.pointer (some ⟨12, 175, none⟩)])]).run Tryz.prog w = .ok (.bool false) w := by kernel_rfl
theorem Tryz.bdValueE (w : World) : (ReflectliteValue.unpack (.iface 175 (.agg #[.iface 84 (.int .i64 2)]))).run Tryz.prog w
    = .ok (.agg #[.pointer (some ⟨12, 175, none⟩), .pointer (some ⟨w.heap.size, 0, none⟩), .int .u64 153]) (w.alloc (.cells #[.iface 84 (.int .i64 2)] 175)) := by kernel_rfl
theorem Tryz.bdElemOf (w : World) : (Rtype.elem? 176).run Tryz.prog w = .ok (some 175) w := by kernel_rfl
theorem Tryz.bdMkE (p : Addr) (w : World) : (ReflectliteValue.mk 175 p ReflectliteValue.flagAddr).run Tryz.prog w = .ok (.agg #[.pointer (some ⟨12, 175, none⟩), .pointer (some p), .int .u64 409]) w := by kernel_rfl
theorem Tryz.bdElemV (a p : Addr) (W : World) (ha : W.cell? a = some (.pointer (some p))) :
    (ReflectliteValue.method (ReflectliteValue.valueError "reflectlite.Value.Elem" 0) ReflectliteValue.elem #[.agg #[.pointer (some ⟨12, 176, none⟩), .pointer (some a), .int .u64 150]]).run Tryz.prog W
      = .ok (.agg #[.pointer (some ⟨12, 175, none⟩), .pointer (some p), .int .u64 409]) W := by
  rw [as_rlm]
  simp only [Sem.run_bind, Tryz.bdPartsP, Result.andThen]
  simp [ReflectliteValue.elem, loadVar, isAgg, underlying, Tryz.underlying176, ha, Result.andThen, Tryz.bdElemOf, Tryz.bdMkE]
theorem Tryz.bdPartsEa (a : Addr) (w : World) : (ReflectliteValue.parts (.agg #[.pointer (some ⟨12, 175, none⟩), .pointer (some a), .int .u64 409])).run Tryz.prog w = .ok (some (175, a, 409)) w := by kernel_rfl
theorem Tryz.bdPartsE (a : Addr) (w : World) : (ReflectliteValue.parts (.agg #[.pointer (some ⟨12, 175, none⟩), .pointer (some a), .int .u64 153])).run Tryz.prog w = .ok (some (175, a, 153)) w := by kernel_rfl
theorem Tryz.bdDirect (w : World) : (Rtype.directlyAssignable 175 175).run Tryz.prog w = .ok true w := by kernel_rfl
theorem Tryz.bdLoad (b : Addr) (W : World) (v : Value) (hb : W.cell? b = some v) : (loadVar 175 b).run Tryz.prog W = .ok (.agg #[v]) W := by
  obtain ⟨g, o, q⟩ := b
  have hs : (sizeOf 175).run Tryz.prog W = .ok 1 W := by kernel_rfl
  have ha : (isAgg 175).run Tryz.prog W = .ok true W := by kernel_rfl
  unfold loadVar
  simp [ha, hs, Result.andThen, loadCells, loadCellsFrom, Addr.add, hb]
theorem Tryz.bdSet (ta b : Addr) (n old : Value) (hn : n = .iface 84 (.int .i64 2)) (W : World) (hb : W.cell? b = some n) (ht : W.cell? ta = some old) (hf : W.frozen? ta = false) :
    (ReflectliteValue.set #[.agg #[.pointer (some ⟨12, 175, none⟩), .pointer (some ta), .int .u64 409], .agg #[.pointer (some ⟨12, 175, none⟩), .pointer (some b), .int .u64 153]]).run Tryz.prog W
      = .ok (.tuple #[]) (W.setCell ta n) := by
  rw [as_rls]
  simp only [Sem.run_bind, Tryz.bdPartsEa, Tryz.bdPartsE, Result.andThen]
  simp [ReflectliteValue.flagAddr, Tryz.bdLoad _ _ _ hb, Result.andThen, Tryz.bdDirect, storeVar, Value.cells, storeCells, Addr.add, hn]
  rw [run_store Tryz.prog W ta _ _ (by rfl)]
  simp [ht, hf]
theorem Tryz.noAs (v : Value) (xT : TypeId) (w : World) : (Instr.typeAssert (.iface 84 v) xT 221 true).run Tryz.prog w = .ok (.tuple #[.nilIface, .bool false]) w := run_typeAssert_lacksB Tryz.underlying221 (by kernel_rfl) (by kernel_rfl) v xT w
theorem Tryz.noUnwrap (v : Value) (xT : TypeId) (w : World) : (Instr.typeAssert (.iface 84 v) xT 224 true).run Tryz.prog w = .ok (.tuple #[.nilIface, .bool false]) w := run_typeAssert_lacksB Tryz.underlying224 (by kernel_rfl) (by kernel_rfl) v xT w
theorem Tryz.noUnwraps (v : Value) (xT : TypeId) (w : World) : (Instr.typeAssert (.iface 84 v) xT 226 true).run Tryz.prog w = .ok (.tuple #[.nilIface, .bool false]) w := run_typeAssert_lacksB Tryz.underlying226 (by kernel_rfl) (by kernel_rfl) v xT w
set_option maxHeartbeats 4000000 in
theorem asb_miss (n : Int) (t : Addr) (w : World) (hg : ETok w) :
    Calls Tryz.prog 85 #[.iface 84 (.int .i64 n), .iface 176 (.pointer (some t))] w fun ev w' => ev = .returned (.bool false) ∧ Below w.heap.size w w' := by
  have h6 := @run_callFunc_extern Tryz.prog 118 _ (fun args => ReflectliteValue.unpack (args.getD 0 (.tuple #[]))) Tryz.func118 (by kernel_rfl) (by kernel_rfl) (by kernel_rfl) (by kernel_rfl)
  have h7 := @run_callFunc_extern Tryz.prog 119 _ (ReflectliteValue.methodAny (ReflectliteValue.valueError "reflectlite.Value.Type" 0) (fun t _ _ _ => ReflectliteType.toType t)) Tryz.func119 (by kernel_rfl) (by kernel_rfl) (by kernel_rfl) (by kernel_rfl)
  have h8 := @run_callFunc_extern Tryz.prog 120 _ (ReflectliteValue.method (ReflectliteValue.valueError "reflectlite.Value.IsNil" 0) ReflectliteValue.isNil) Tryz.func120 (by kernel_rfl) (by kernel_rfl) (by kernel_rfl) (by kernel_rfl)
  have h27 := @run_callFunc_extern Tryz.prog 240 _ (ReflectliteType.abiMethod fun t => do pure (.int .u8 (← Rtype.kind t))) Tryz.func240 (by kernel_rfl) (by kernel_rfl) (by kernel_rfl) (by kernel_rfl)
  have h37 := @run_callFunc_extern Tryz.prog 251 _ (ReflectliteType.method ReflectliteType.elem) Tryz.func251 (by kernel_rfl) (by kernel_rfl) (by kernel_rfl) (by kernel_rfl)
  have h38 := @run_callFunc_extern Tryz.prog 252 _ (ReflectliteType.relation "Implements" ReflectliteType.implements_) Tryz.func252 (by kernel_rfl) (by kernel_rfl) (by kernel_rfl) (by kernel_rfl)
  have h10 := @run_callFunc_extern Tryz.prog 146 _ ReflectliteType.typeOf Tryz.func146 (by kernel_rfl) (by kernel_rfl) (by kernel_rfl) (by kernel_rfl)
  have h35 := @run_callFunc_extern Tryz.prog 249 _ (ReflectliteType.relation "AssignableTo" ReflectliteType.assignableTo) Tryz.func249 (by kernel_rfl) (by kernel_rfl) (by kernel_rfl) (by kernel_rfl)
  have h11 := @run_callFunc_extern Tryz.prog 147 _ (ReflectliteValue.method (ReflectliteValue.valueError "reflectlite.Value.Elem" 0) ReflectliteValue.elem) Tryz.func147 (by kernel_rfl) (by kernel_rfl) (by kernel_rfl) (by kernel_rfl)
  have h12 := @run_callFunc_extern Tryz.prog 148 _ ReflectliteValue.set Tryz.func148 (by kernel_rfl) (by kernel_rfl) (by kernel_rfl) (by kernel_rfl)
  have f6 := Tryz.bdValueOf
  have f7 := Tryz.bdType
  have mK := Tryz.asMethodKind
  have mE := Tryz.asMethodElem
  have mI := Tryz.asMethodImplements
  have mA := Tryz.asMethodAssignableTo
  have k27 := Tryz.bdKindP
  have k25 := Tryz.bdKindE
  have e27 := Tryz.bdElem
  have i25 := Tryz.bdImplements
  have n8 := Tryz.bdIsNil ⟨w.heap.size, 0, none⟩ t ((w.alloc (.cells #[.pointer (some t)] 176)).alloc (.cells #[.pointer (some ⟨12, 176, none⟩), .pointer (some ⟨w.heap.size, 0, none⟩), .int .u64 150] 181)) (by simp)
  have hg2 : ((w.alloc (.cells #[.pointer (some t)] 176)).alloc (.cells #[.pointer (some ⟨12, 176, none⟩), .pointer (some ⟨w.heap.size, 0, none⟩), .int .u64 150] 181)).cell? ⟨0, 0, none⟩ = some (.iface 216 (.agg #[.pointer (some ⟨12, 27, none⟩)])) :=
    (hg.alloc _).alloc _
  have tO := Tryz.asTypeOf
  have a25 := Tryz.bdNotAssignable
  have na := Tryz.noAs
  have nu := Tryz.noUnwrap
  have nv := Tryz.noUnwraps
  clear hg
  go_enter Tryz.func85, Tryz.ntmps85
  go_wp2
  refine wp_loop_rounds 1 ?_
  rw [rounds_succ]
  go_wp2
  go_ret
  refine ⟨rfl, ?_⟩
  repeat (first | exact Below.refl _ _ | refine Below.alloc ?_ (by simp; omega) _ | refine Below.alloc ?_ (by simp) _)
set_option maxRecDepth 100000 in
set_option maxHeartbeats 4000000 in
theorem asb_hit (t : Addr) (old : Value) (w : World) (hg : ETok w) (ht0 : w.cell? t = some old) (hf0 : w.frozen? t = false) :
    Calls Tryz.prog 85 #[.iface 175 (.agg #[.iface 84 (.int .i64 2)]), .iface 176 (.pointer (some t))] w fun ev w' => ev = .returned (.bool true) ∧ w' = ((((w.alloc (.cells #[.pointer (some t)] 176)).alloc (.cells #[.pointer (some ⟨12, 176, none⟩), .pointer (some ⟨w.heap.size, 0, none⟩), .int .u64 150] 181)).alloc (.cells #[.pointer (some ⟨12, 176, none⟩), .pointer (some ⟨w.heap.size, 0, none⟩), .int .u64 150] 181)).alloc (.cells #[.iface 84 (.int .i64 2)] 175)).setCell t (.iface 84 (.int .i64 2)) := by
  have h6 := @run_callFunc_extern Tryz.prog 118 _ (fun args => ReflectliteValue.unpack (args.getD 0 (.tuple #[]))) Tryz.func118 (by kernel_rfl) (by kernel_rfl) (by kernel_rfl) (by kernel_rfl)
  have h7 := @run_callFunc_extern Tryz.prog 119 _ (ReflectliteValue.methodAny (ReflectliteValue.valueError "reflectlite.Value.Type" 0) (fun t _ _ _ => ReflectliteType.toType t)) Tryz.func119 (by kernel_rfl) (by kernel_rfl) (by kernel_rfl) (by kernel_rfl)
  have h8 := @run_callFunc_extern Tryz.prog 120 _ (ReflectliteValue.method (ReflectliteValue.valueError "reflectlite.Value.IsNil" 0) ReflectliteValue.isNil) Tryz.func120 (by kernel_rfl) (by kernel_rfl) (by kernel_rfl) (by kernel_rfl)
  have h27 := @run_callFunc_extern Tryz.prog 240 _ (ReflectliteType.abiMethod fun t => do pure (.int .u8 (← Rtype.kind t))) Tryz.func240 (by kernel_rfl) (by kernel_rfl) (by kernel_rfl) (by kernel_rfl)
  have h37 := @run_callFunc_extern Tryz.prog 251 _ (ReflectliteType.method ReflectliteType.elem) Tryz.func251 (by kernel_rfl) (by kernel_rfl) (by kernel_rfl) (by kernel_rfl)
  have h38 := @run_callFunc_extern Tryz.prog 252 _ (ReflectliteType.relation "Implements" ReflectliteType.implements_) Tryz.func252 (by kernel_rfl) (by kernel_rfl) (by kernel_rfl) (by kernel_rfl)
  have h10 := @run_callFunc_extern Tryz.prog 146 _ ReflectliteType.typeOf Tryz.func146 (by kernel_rfl) (by kernel_rfl) (by kernel_rfl) (by kernel_rfl)
  have h35 := @run_callFunc_extern Tryz.prog 249 _ (ReflectliteType.relation "AssignableTo" ReflectliteType.assignableTo) Tryz.func249 (by kernel_rfl) (by kernel_rfl) (by kernel_rfl) (by kernel_rfl)
  have h11 := @run_callFunc_extern Tryz.prog 147 _ (ReflectliteValue.method (ReflectliteValue.valueError "reflectlite.Value.Elem" 0) ReflectliteValue.elem) Tryz.func147 (by kernel_rfl) (by kernel_rfl) (by kernel_rfl) (by kernel_rfl)
  have h12 := @run_callFunc_extern Tryz.prog 148 _ ReflectliteValue.set Tryz.func148 (by kernel_rfl) (by kernel_rfl) (by kernel_rfl) (by kernel_rfl)
  have f6 := Tryz.bdValueOf
  have f7 := Tryz.bdType
  have mK := Tryz.asMethodKind
  have mE := Tryz.asMethodElem
  have mI := Tryz.asMethodImplements
  have mA := Tryz.asMethodAssignableTo
  have k27 := Tryz.bdKindP
  have k25 := Tryz.bdKindE
  have e27 := Tryz.bdElem
  have i25 := Tryz.bdImplements
  have n8 := Tryz.bdIsNil ⟨w.heap.size, 0, none⟩ t ((w.alloc (.cells #[.pointer (some t)] 176)).alloc (.cells #[.pointer (some ⟨12, 176, none⟩), .pointer (some ⟨w.heap.size, 0, none⟩), .int .u64 150] 181)) (by simp)
  have hg2 : ((w.alloc (.cells #[.pointer (some t)] 176)).alloc (.cells #[.pointer (some ⟨12, 176, none⟩), .pointer (some ⟨w.heap.size, 0, none⟩), .int .u64 150] 181)).cell? ⟨0, 0, none⟩ = some (.iface 216 (.agg #[.pointer (some ⟨12, 27, none⟩)])) :=
    (hg.alloc _).alloc _
  have tO := Tryz.bdTypeOf
  have a25 := Tryz.bdAssignable
  have v25 := Tryz.bdValueE
  have htl : t.block < w.heap.size := by
    rcases Nat.lt_or_ge t.block w.heap.size with h | h
    · exact h
    · simp [World.cell?, Array.getElem?_eq_none h] at ht0
  have el := Tryz.bdElemV ⟨w.heap.size, 0, none⟩ t (((w.alloc (.cells #[.pointer (some t)] 176)).alloc (.cells #[.pointer (some ⟨12, 176, none⟩), .pointer (some ⟨w.heap.size, 0, none⟩), .int .u64 150] 181)).alloc (.cells #[.pointer (some ⟨12, 176, none⟩), .pointer (some ⟨w.heap.size, 0, none⟩), .int .u64 150] 181)) (by rw [World.cell?_alloc_lt _ _ ⟨w.heap.size, 0, none⟩ (by simp; omega)]; simp)
  have st := Tryz.bdSet t ⟨w.heap.size + 1 + 1 + 1, 0, none⟩ _ old rfl ((((w.alloc (.cells #[.pointer (some t)] 176)).alloc (.cells #[.pointer (some ⟨12, 176, none⟩), .pointer (some ⟨w.heap.size, 0, none⟩), .int .u64 150] 181)).alloc (.cells #[.pointer (some ⟨12, 176, none⟩), .pointer (some ⟨w.heap.size, 0, none⟩), .int .u64 150] 181)).alloc (.cells #[.iface 84 (.int .i64 2)] 175))
    (by rw [World.cell?_alloc_at _ _ _ _ (by simp)]; rfl)
    (by rw [World.cell?_alloc_lt _ _ t (by simp; omega), World.cell?_alloc_lt _ _ t (by simp; omega), World.cell?_alloc_lt _ _ t (by simp; omega), World.cell?_alloc_lt _ _ t htl]; exact ht0)
    (by rw [World.frozen?_alloc_old _ _ t (by simp; omega), World.frozen?_alloc_old _ _ t (by simp; omega), World.frozen?_alloc_old _ _ t (by simp; omega), World.frozen?_alloc_old _ _ t (Nat.ne_of_lt htl)]; exact hf0)
  clear hg
  go_enter Tryz.func85, Tryz.ntmps85
  go_wp2
  refine wp_loop_rounds 1 ?_
  rw [rounds_succ]
  go_wp2

  go_ret
  exact ⟨rfl, rfl⟩
theorem as_nil (x : Value) (w : World) : Calls Tryz.prog 85 #[.nilIface, x] w fun ev w' => ev = .returned (.bool false) ∧ w = w' := by
  go_enter Tryz.func85, Tryz.ntmps85
  go_wp2
  go_ret
  exact ⟨rfl, rfl⟩
end Go.Proofs.YtmfbaijbigodkaaGreatDoor

/-! desk.do at each word, by contracts: what it answers, the error, and the talk behind it. Condition: the tables hold what the program's text lays; each end made no more than 1000 packets. -/
namespace Go.Proofs.YtmfbaijbigodkaaGreatDoor
open Go.ChangeShapes Go.WideShapes Go.ChangeAt Go.RowKit Go.Shelf
set_option linter.unusedVariables false

/-- what the tables hold -/
structure RTabs (w : World) : Prop where
  e : ETok w
  k : KTab w
  c : CTab w
  p : PTab w
  s : STab w
  u : w.cell? ⟨1, 0, none⟩ = some (.iface 84 (.int .i64 2))
theorem rtabs {w w1 : World} {L : List Thing} {i : Nat} (hK : KTab w) (hC : CTab w) {S : List Nat} (up : ∀ (X : World) (t : Thing), Leaves w1 X S t → Own w [] X (L.set i t)) :
    ∀ X, Out w1 X S → KTab X ∧ CTab X := fun X hX => by
  have o := up X ⟨fun _ S => S = [], fun h k hk => by rw [h] at hk; simp at hk, fun h _ _ => h⟩ ⟨[], rfl, hX, by simp⟩
  exact ⟨hK.later o.since, hC.later o.since⟩
/-- each made no more than so many packets -/
def Few (s : TkS) (k : Nat) : Prop := s.e0.made.length ≤ k ∧ s.e1.made.length ≤ k
theorem Few.of {s : TkS} {k : Nat} (h : Few s k) (who : Int) : (s.e who).made.length ≤ k := by
  unfold TkS.e
  split
  · exact h.1
  · exact h.2
set_option maxHeartbeats 1600000 in
theorem pdo_write (w0 : World) (T : RTabs w0) (R : Thing) (g : Nat) (s : TkS) (q c : Nat) (n0 : Int) (d : ByteArray) (hd : d.size ≤ 1000000) (w : World) (ho : Own w0 [] w [talkT g s, R, Thing.lst 3 1 (.slice (some ⟨q, 0, none⟩) 1 c) [intRow n0]]) :
    Calls Tryz.prog 144 #[.agg #[.pointer (some ⟨g, 0, none⟩)], .string ⟨#[119, 114, 105, 116, 101]⟩, .slice (some ⟨q, 0, none⟩) 1 c, .string d] w fun e w' => e = .returned (.tuple #[.string ⟨#[111, 107]⟩, errV (s.writeE n0 d)]) ∧ Own w0 [] w' [talkT g (s.write n0 d), R] := by
  have HO := Lib.hid (ho.alloc 129 #[.pointer (some ⟨g, 0, none⟩)])
  obtain ⟨W1, hW1⟩ : ∃ W1, w.alloc (.cells #[.pointer (some ⟨g, 0, none⟩)] 129) = W1 := ⟨_, rfl⟩
  obtain ⟨gx, hgx⟩ : ∃ x, w.heap.size = x := ⟨_, rfl⟩
  rw [hW1, hgx] at HO
  have HT := Lib.hid (fun W (h : Own w0 [] W [talkT g s, R, Thing.lst 3 1 (.slice (some ⟨q, 0, none⟩) 1 c) [intRow n0], Thing.block gx 129 #[.pointer (some ⟨g, 0, none⟩)]]) => show Calls Tryz.prog 25 #[.pointer (some ⟨g, 0, none⟩), .int .i64 n0, .string d] W fun e w' => e = .returned (errV (s.writeE n0 d)) ∧ Own w0 [] w' [talkT g (s.write n0 d), R, Thing.lst 3 1 (.slice (some ⟨q, 0, none⟩) 1 c) [intRow n0], Thing.block gx 129 #[.pointer (some ⟨g, 0, none⟩)]] from by
    obtain ⟨S, hS, up⟩ := h.at_ 0 rfl
    exact ((twrite g s n0 d W S hS (by omega))).mono fun e w' ⟨h1, h2⟩ => ⟨h1, up _ _ h2⟩)
  generalize s.writeE n0 d = E at *
  generalize (s.write n0 d : TkS) = s2 at *
  have c0 : W1.cell? ⟨q, 0, none⟩ = some (.int .i64 n0) := by
    have := (HO.out.ls 2 rfl).cell rfl (i := 0) (j := 0) (e := intRow n0) (u := .int .i64 n0) rfl rfl
    simpa using this
  have cb : W1.cell? ⟨gx, 0, none⟩ = some (.pointer (some ⟨g, 0, none⟩)) := (HO.out.blk 3 rfl).cell 0
  have C1 := Lib.hid (⟨c0, cb⟩ : W1.cell? ⟨q, 0, none⟩ = some (.int .i64 n0) ∧ W1.cell? ⟨gx, 0, none⟩ = some (.pointer (some ⟨g, 0, none⟩)))
  clear ho
  go_enter Tryz.func144, Tryz.ntmps144
  trace "A"; go_wp2_with fail
  (try rw [hW1]); (try rw [hgx])
  clear hW1 hgx
  trace "B"; go_region_held3 (fun w' => w'.cell? ⟨q, 0, none⟩ = some (.int .i64 n0) ∧ w'.cell? ⟨gx, 0, none⟩ = some (.pointer (some ⟨g, 0, none⟩))) (first | exact C1.out | exact cq1.out) ((go_at_call 25; refine (HT.out _ ?_).mono ?_; (first | exact HO.out | exact HO.out.drew); rintro e w7 ⟨rfl, ha⟩; have HW7 := Lib.hid ha; have cq1 : Hid (w7.cell? ⟨q, 0, none⟩ = some (.int .i64 n0) ∧ w7.cell? ⟨gx, 0, none⟩ = some (.pointer (some ⟨g, 0, none⟩))) := Lib.hid ⟨by have := (ha.ls 2 rfl).cell rfl (i := 0) (j := 0) (e := intRow n0) (u := .int .i64 n0) rfl rfl; simpa using this, (ha.blk 3 rfl).cell 0⟩; clear ha))
  all_goals
    trace "C"; go_wp2_with fail
    go_ret2
    exact ⟨rfl, HW7.out.take 2⟩
set_option maxHeartbeats 1600000 in
theorem pdo_send (w0 : World) (T : RTabs w0) (R : Thing) (g : Nat) (s : TkS) (q c : Nat) (n0 : Int) (d : ByteArray) (hf : Few s 1000) (w : World) (ho : Own w0 [] w [talkT g s, R, Thing.lst 3 1 (.slice (some ⟨q, 0, none⟩) 1 c) [intRow n0]]) :
    Calls Tryz.prog 144 #[.agg #[.pointer (some ⟨g, 0, none⟩)], .string ⟨#[115, 101, 110, 100]⟩, .slice (some ⟨q, 0, none⟩) 1 c, .string d] w fun e w' => e = .returned (.tuple #[.string ⟨#[111, 107]⟩, errV (s.sendE n0)]) ∧ Own w0 [] w' [talkT g (s.send n0), R] := by
  have HO := Lib.hid (ho.alloc 129 #[.pointer (some ⟨g, 0, none⟩)])
  obtain ⟨W1, hW1⟩ : ∃ W1, w.alloc (.cells #[.pointer (some ⟨g, 0, none⟩)] 129) = W1 := ⟨_, rfl⟩
  obtain ⟨gx, hgx⟩ : ∃ x, w.heap.size = x := ⟨_, rfl⟩
  rw [hW1, hgx] at HO
  have HT := Lib.hid (fun W (h : Own w0 [] W [talkT g s, R, Thing.lst 3 1 (.slice (some ⟨q, 0, none⟩) 1 c) [intRow n0], Thing.block gx 129 #[.pointer (some ⟨g, 0, none⟩)]]) => show Calls Tryz.prog 27 #[.pointer (some ⟨g, 0, none⟩), .int .i64 n0] W fun e w' => e = .returned (errV (s.sendE n0)) ∧ Own w0 [] w' [talkT g (s.send n0), R, Thing.lst 3 1 (.slice (some ⟨q, 0, none⟩) 1 c) [intRow n0], Thing.block gx 129 #[.pointer (some ⟨g, 0, none⟩)]] from by
    obtain ⟨S, hS, up⟩ := h.at_ 0 rfl
    exact ((tsend g s n0 W S hS (T.k.later h.since) (hf.of n0))).mono fun e w' ⟨h1, h2⟩ => ⟨h1, up _ _ h2⟩)
  generalize s.sendE n0 = E at *
  generalize (s.send n0 : TkS) = s2 at *
  have c0 : W1.cell? ⟨q, 0, none⟩ = some (.int .i64 n0) := by
    have := (HO.out.ls 2 rfl).cell rfl (i := 0) (j := 0) (e := intRow n0) (u := .int .i64 n0) rfl rfl
    simpa using this
  have cb : W1.cell? ⟨gx, 0, none⟩ = some (.pointer (some ⟨g, 0, none⟩)) := (HO.out.blk 3 rfl).cell 0
  have C1 := Lib.hid (⟨c0, cb⟩ : W1.cell? ⟨q, 0, none⟩ = some (.int .i64 n0) ∧ W1.cell? ⟨gx, 0, none⟩ = some (.pointer (some ⟨g, 0, none⟩)))
  clear ho
  go_enter Tryz.func144, Tryz.ntmps144
  trace "A"; go_wp2_with fail
  (try rw [hW1]); (try rw [hgx])
  clear hW1 hgx
  trace "B"; go_region_held3 (fun w' => w'.cell? ⟨q, 0, none⟩ = some (.int .i64 n0) ∧ w'.cell? ⟨gx, 0, none⟩ = some (.pointer (some ⟨g, 0, none⟩))) (first | exact C1.out | exact cq1.out) ((go_at_call 27; refine (HT.out _ ?_).mono ?_; (first | exact HO.out | exact HO.out.drew); rintro e w7 ⟨rfl, ha⟩; have HW7 := Lib.hid ha; have cq1 : Hid (w7.cell? ⟨q, 0, none⟩ = some (.int .i64 n0) ∧ w7.cell? ⟨gx, 0, none⟩ = some (.pointer (some ⟨g, 0, none⟩))) := Lib.hid ⟨by have := (ha.ls 2 rfl).cell rfl (i := 0) (j := 0) (e := intRow n0) (u := .int .i64 n0) rfl rfl; simpa using this, (ha.blk 3 rfl).cell 0⟩; clear ha))
  all_goals
    trace "C"; go_wp2_with fail
    go_ret2
    exact ⟨rfl, HW7.out.take 2⟩
set_option maxHeartbeats 1600000 in
theorem pdo_come (w0 : World) (T : RTabs w0) (R : Thing) (g : Nat) (s : TkS) (q c : Nat) (n0 : Int) (d : ByteArray) (hf : Few s 1000) (w : World) (ho : Own w0 [] w [talkT g s, R, Thing.lst 3 1 (.slice (some ⟨q, 0, none⟩) 1 c) [intRow n0]]) :
    Calls Tryz.prog 144 #[.agg #[.pointer (some ⟨g, 0, none⟩)], .string ⟨#[99, 111, 109, 101]⟩, .slice (some ⟨q, 0, none⟩) 1 c, .string d] w fun e w' => e = .returned (.tuple #[.string ⟨#[111, 107]⟩, errV (s.comeE n0)]) ∧ Own w0 [] w' [talkT g (s.come n0), R] := by
  have HO := Lib.hid (ho.alloc 129 #[.pointer (some ⟨g, 0, none⟩)])
  obtain ⟨W1, hW1⟩ : ∃ W1, w.alloc (.cells #[.pointer (some ⟨g, 0, none⟩)] 129) = W1 := ⟨_, rfl⟩
  obtain ⟨gx, hgx⟩ : ∃ x, w.heap.size = x := ⟨_, rfl⟩
  rw [hW1, hgx] at HO
  have HT := Lib.hid (fun W (h : Own w0 [] W [talkT g s, R, Thing.lst 3 1 (.slice (some ⟨q, 0, none⟩) 1 c) [intRow n0], Thing.block gx 129 #[.pointer (some ⟨g, 0, none⟩)]]) => show Calls Tryz.prog 29 #[.pointer (some ⟨g, 0, none⟩), .int .i64 n0] W fun e w' => e = .returned (errV (s.comeE n0)) ∧ Own w0 [] w' [talkT g (s.come n0), R, Thing.lst 3 1 (.slice (some ⟨q, 0, none⟩) 1 c) [intRow n0], Thing.block gx 129 #[.pointer (some ⟨g, 0, none⟩)]] from by
    obtain ⟨S, hS, up⟩ := h.at_ 0 rfl
    exact ((tcome g s n0 W S hS (rtabs T.k T.c up) hf.1 hf.2)).mono fun e w' ⟨h1, h2⟩ => ⟨h1, up _ _ h2⟩)
  generalize s.comeE n0 = E at *
  generalize (s.come n0 : TkS) = s2 at *
  have c0 : W1.cell? ⟨q, 0, none⟩ = some (.int .i64 n0) := by
    have := (HO.out.ls 2 rfl).cell rfl (i := 0) (j := 0) (e := intRow n0) (u := .int .i64 n0) rfl rfl
    simpa using this
  have cb : W1.cell? ⟨gx, 0, none⟩ = some (.pointer (some ⟨g, 0, none⟩)) := (HO.out.blk 3 rfl).cell 0
  have C1 := Lib.hid (⟨c0, cb⟩ : W1.cell? ⟨q, 0, none⟩ = some (.int .i64 n0) ∧ W1.cell? ⟨gx, 0, none⟩ = some (.pointer (some ⟨g, 0, none⟩)))
  clear ho
  go_enter Tryz.func144, Tryz.ntmps144
  trace "A"; go_wp2_with fail
  (try rw [hW1]); (try rw [hgx])
  clear hW1 hgx
  trace "B"; go_region_held3 (fun w' => w'.cell? ⟨q, 0, none⟩ = some (.int .i64 n0) ∧ w'.cell? ⟨gx, 0, none⟩ = some (.pointer (some ⟨g, 0, none⟩))) (first | exact C1.out | exact cq1.out) ((go_at_call 29; refine (HT.out _ ?_).mono ?_; (first | exact HO.out | exact HO.out.drew); rintro e w7 ⟨rfl, ha⟩; have HW7 := Lib.hid ha; have cq1 : Hid (w7.cell? ⟨q, 0, none⟩ = some (.int .i64 n0) ∧ w7.cell? ⟨gx, 0, none⟩ = some (.pointer (some ⟨g, 0, none⟩))) := Lib.hid ⟨by have := (ha.ls 2 rfl).cell rfl (i := 0) (j := 0) (e := intRow n0) (u := .int .i64 n0) rfl rfl; simpa using this, (ha.blk 3 rfl).cell 0⟩; clear ha))
  all_goals
    trace "C"; go_wp2_with fail
    go_ret2
    exact ⟨rfl, HW7.out.take 2⟩
set_option maxHeartbeats 1600000 in
theorem pdo_lose (w0 : World) (T : RTabs w0) (R : Thing) (g : Nat) (s : TkS) (q c : Nat) (n0 : Int) (d : ByteArray) (w : World) (ho : Own w0 [] w [talkT g s, R, Thing.lst 3 1 (.slice (some ⟨q, 0, none⟩) 1 c) [intRow n0]]) :
    Calls Tryz.prog 144 #[.agg #[.pointer (some ⟨g, 0, none⟩)], .string ⟨#[108, 111, 115, 101]⟩, .slice (some ⟨q, 0, none⟩) 1 c, .string d] w fun e w' => e = .returned (.tuple #[.string ⟨#[111, 107]⟩, errV (giveE s.L n0)]) ∧ Own w0 [] w' [talkT g ({ s with L := giveL s.L n0 }), R] := by
  have HO := Lib.hid (ho.alloc 129 #[.pointer (some ⟨g, 0, none⟩)])
  obtain ⟨W1, hW1⟩ : ∃ W1, w.alloc (.cells #[.pointer (some ⟨g, 0, none⟩)] 129) = W1 := ⟨_, rfl⟩
  obtain ⟨gx, hgx⟩ : ∃ x, w.heap.size = x := ⟨_, rfl⟩
  rw [hW1, hgx] at HO
  have HT := Lib.hid (fun W (h : Own w0 [] W [talkT g s, R, Thing.lst 3 1 (.slice (some ⟨q, 0, none⟩) 1 c) [intRow n0], Thing.block gx 129 #[.pointer (some ⟨g, 0, none⟩)]]) => show Calls Tryz.prog 32 #[.pointer (some ⟨g, 0, none⟩), .int .i64 n0] W fun e w' => e = .returned (errV (giveE s.L n0)) ∧ Own w0 [] w' [talkT g ({ s with L := giveL s.L n0 }), R, Thing.lst 3 1 (.slice (some ⟨q, 0, none⟩) 1 c) [intRow n0], Thing.block gx 129 #[.pointer (some ⟨g, 0, none⟩)]] from by
    obtain ⟨S, hS, up⟩ := h.at_ 0 rfl
    exact ((tklose g s n0 W S hS)).mono fun e w' ⟨h1, h2⟩ => ⟨h1, up _ _ h2⟩)
  generalize giveE s.L n0 = E at *
  generalize ({ s with L := giveL s.L n0 } : TkS) = s2 at *
  have c0 : W1.cell? ⟨q, 0, none⟩ = some (.int .i64 n0) := by
    have := (HO.out.ls 2 rfl).cell rfl (i := 0) (j := 0) (e := intRow n0) (u := .int .i64 n0) rfl rfl
    simpa using this
  have cb : W1.cell? ⟨gx, 0, none⟩ = some (.pointer (some ⟨g, 0, none⟩)) := (HO.out.blk 3 rfl).cell 0
  have C1 := Lib.hid (⟨c0, cb⟩ : W1.cell? ⟨q, 0, none⟩ = some (.int .i64 n0) ∧ W1.cell? ⟨gx, 0, none⟩ = some (.pointer (some ⟨g, 0, none⟩)))
  clear ho
  go_enter Tryz.func144, Tryz.ntmps144
  trace "A"; go_wp2_with fail
  (try rw [hW1]); (try rw [hgx])
  clear hW1 hgx
  trace "B"; go_region_held3 (fun w' => w'.cell? ⟨q, 0, none⟩ = some (.int .i64 n0) ∧ w'.cell? ⟨gx, 0, none⟩ = some (.pointer (some ⟨g, 0, none⟩))) (first | exact C1.out | exact cq1.out) ((go_at_call 32; refine (HT.out _ ?_).mono ?_; (first | exact HO.out | exact HO.out.drew); rintro e w7 ⟨rfl, ha⟩; have HW7 := Lib.hid ha; have cq1 : Hid (w7.cell? ⟨q, 0, none⟩ = some (.int .i64 n0) ∧ w7.cell? ⟨gx, 0, none⟩ = some (.pointer (some ⟨g, 0, none⟩))) := Lib.hid ⟨by have := (ha.ls 2 rfl).cell rfl (i := 0) (j := 0) (e := intRow n0) (u := .int .i64 n0) rfl rfl; simpa using this, (ha.blk 3 rfl).cell 0⟩; clear ha))
  all_goals
    trace "C"; go_wp2_with fail
    go_ret2
    exact ⟨rfl, HW7.out.take 2⟩
set_option maxHeartbeats 1600000 in
theorem pdo_twice (w0 : World) (T : RTabs w0) (R : Thing) (g : Nat) (s : TkS) (q c : Nat) (n0 : Int) (d : ByteArray) (w : World) (ho : Own w0 [] w [talkT g s, R, Thing.lst 3 1 (.slice (some ⟨q, 0, none⟩) 1 c) [intRow n0]]) :
    Calls Tryz.prog 144 #[.agg #[.pointer (some ⟨g, 0, none⟩)], .string ⟨#[116, 119, 105, 99, 101]⟩, .slice (some ⟨q, 0, none⟩) 1 c, .string d] w fun e w' => e = .returned (.tuple #[.string ⟨#[111, 107]⟩, errV (twiceE s.L n0)]) ∧ Own w0 [] w' [talkT g ({ s with L := twiceL s.L n0 }), R] := by
  have HO := Lib.hid (ho.alloc 129 #[.pointer (some ⟨g, 0, none⟩)])
  obtain ⟨W1, hW1⟩ : ∃ W1, w.alloc (.cells #[.pointer (some ⟨g, 0, none⟩)] 129) = W1 := ⟨_, rfl⟩
  obtain ⟨gx, hgx⟩ : ∃ x, w.heap.size = x := ⟨_, rfl⟩
  rw [hW1, hgx] at HO
  have HT := Lib.hid (fun W (h : Own w0 [] W [talkT g s, R, Thing.lst 3 1 (.slice (some ⟨q, 0, none⟩) 1 c) [intRow n0], Thing.block gx 129 #[.pointer (some ⟨g, 0, none⟩)]]) => show Calls Tryz.prog 33 #[.pointer (some ⟨g, 0, none⟩), .int .i64 n0] W fun e w' => e = .returned (errV (twiceE s.L n0)) ∧ Own w0 [] w' [talkT g ({ s with L := twiceL s.L n0 }), R, Thing.lst 3 1 (.slice (some ⟨q, 0, none⟩) 1 c) [intRow n0], Thing.block gx 129 #[.pointer (some ⟨g, 0, none⟩)]] from by
    obtain ⟨S, hS, up⟩ := h.at_ 0 rfl
    exact ((tktwice g s n0 W S hS)).mono fun e w' ⟨h1, h2⟩ => ⟨h1, up _ _ h2⟩)
  generalize twiceE s.L n0 = E at *
  generalize ({ s with L := twiceL s.L n0 } : TkS) = s2 at *
  have c0 : W1.cell? ⟨q, 0, none⟩ = some (.int .i64 n0) := by
    have := (HO.out.ls 2 rfl).cell rfl (i := 0) (j := 0) (e := intRow n0) (u := .int .i64 n0) rfl rfl
    simpa using this
  have cb : W1.cell? ⟨gx, 0, none⟩ = some (.pointer (some ⟨g, 0, none⟩)) := (HO.out.blk 3 rfl).cell 0
  have C1 := Lib.hid (⟨c0, cb⟩ : W1.cell? ⟨q, 0, none⟩ = some (.int .i64 n0) ∧ W1.cell? ⟨gx, 0, none⟩ = some (.pointer (some ⟨g, 0, none⟩)))
  clear ho
  go_enter Tryz.func144, Tryz.ntmps144
  trace "A"; go_wp2_with fail
  (try rw [hW1]); (try rw [hgx])
  clear hW1 hgx
  trace "B"; go_region_held3 (fun w' => w'.cell? ⟨q, 0, none⟩ = some (.int .i64 n0) ∧ w'.cell? ⟨gx, 0, none⟩ = some (.pointer (some ⟨g, 0, none⟩))) (first | exact C1.out | exact cq1.out) ((go_at_call 33; refine (HT.out _ ?_).mono ?_; (first | exact HO.out | exact HO.out.drew); rintro e w7 ⟨rfl, ha⟩; have HW7 := Lib.hid ha; have cq1 : Hid (w7.cell? ⟨q, 0, none⟩ = some (.int .i64 n0) ∧ w7.cell? ⟨gx, 0, none⟩ = some (.pointer (some ⟨g, 0, none⟩))) := Lib.hid ⟨by have := (ha.ls 2 rfl).cell rfl (i := 0) (j := 0) (e := intRow n0) (u := .int .i64 n0) rfl rfl; simpa using this, (ha.blk 3 rfl).cell 0⟩; clear ha))
  all_goals
    trace "C"; go_wp2_with fail
    go_ret2
    exact ⟨rfl, HW7.out.take 2⟩
set_option maxHeartbeats 1600000 in
theorem pdo_read (w0 : World) (T : RTabs w0) (R : Thing) (g : Nat) (s : TkS) (q c : Nat) (n0 n1 : Int) (d : ByteArray) (w : World) (ho : Own w0 [] w [talkT g s, R, Thing.lst 3 1 (.slice (some ⟨q, 0, none⟩) 2 c) [intRow n0, intRow n1]]) :
    Calls Tryz.prog 144 #[.agg #[.pointer (some ⟨g, 0, none⟩)], .string ⟨#[114, 101, 97, 100]⟩, .slice (some ⟨q, 0, none⟩) 2 c, .string d] w fun e w' => e = .returned (.tuple #[.string (if s.readS n0 n1 = ⟨#[]⟩ then bDash else s.readS n0 n1), errV (TkS.readE n0 n1)]) ∧ Own w0 [] w' [talkT g (s.read n0 n1), R] := by
  have HO := Lib.hid (ho.alloc 129 #[.pointer (some ⟨g, 0, none⟩)])
  obtain ⟨W1, hW1⟩ : ∃ W1, w.alloc (.cells #[.pointer (some ⟨g, 0, none⟩)] 129) = W1 := ⟨_, rfl⟩
  obtain ⟨gx, hgx⟩ : ∃ x, w.heap.size = x := ⟨_, rfl⟩
  rw [hW1, hgx] at HO
  have cb : W1.cell? ⟨gx, 0, none⟩ = some (.pointer (some ⟨g, 0, none⟩)) := (HO.out.blk 3 rfl).cell 0
  have HT := Lib.hid (fun W (h : Own w0 [] W [talkT g s, R, Thing.lst 3 1 (.slice (some ⟨q, 0, none⟩) 2 c) [intRow n0, intRow n1], Thing.block gx 129 #[.pointer (some ⟨g, 0, none⟩)]]) => show Calls Tryz.prog 161 #[.agg #[.pointer (some ⟨g, 0, none⟩)], .int .i64 n0, .int .i64 n1] W fun e w' => e = .returned (.tuple #[.string (if s.readS n0 n1 = ⟨#[]⟩ then bDash else s.readS n0 n1), errV (TkS.readE n0 n1)]) ∧ Own w0 [] w' [talkT g (s.read n0 n1), R, Thing.lst 3 1 (.slice (some ⟨q, 0, none⟩) 2 c) [intRow n0, intRow n1], Thing.block gx 129 #[.pointer (some ⟨g, 0, none⟩)]] from by
    obtain ⟨S, hS, up⟩ := h.at_ 0 rfl
    exact (pread g s n0 n1 W S hS).mono fun e w' ⟨h1, h2⟩ => ⟨h1, up _ _ h2⟩)
  obtain ⟨E, hE⟩ : ∃ E, (if s.readS n0 n1 = ⟨#[]⟩ then bDash else s.readS n0 n1) = E := ⟨_, rfl⟩
  rw [hE] at HT
  rw [hE]
  clear hE
  generalize TkS.readE n0 n1 = e0 at *
  generalize s.read n0 n1 = s2 at *
  have c0 : W1.cell? ⟨q, 0, none⟩ = some (.int .i64 n0) := by have := (HO.out.ls 2 rfl).cell rfl (i := 0) (j := 0) (e := intRow n0) (u := .int .i64 n0) rfl rfl; simpa using this
  have c1 : W1.cell? ⟨q, 1, none⟩ = some (.int .i64 n1) := by have := (HO.out.ls 2 rfl).cell rfl (i := 1) (j := 0) (e := intRow n1) (u := .int .i64 n1) rfl rfl; simpa using this
  have C1 := Lib.hid (⟨c0, c1, cb⟩ : W1.cell? ⟨q, 0, none⟩ = some (.int .i64 n0) ∧ W1.cell? ⟨q, 1, none⟩ = some (.int .i64 n1) ∧ W1.cell? ⟨gx, 0, none⟩ = some (.pointer (some ⟨g, 0, none⟩)))
  clear ho
  go_enter Tryz.func144, Tryz.ntmps144
  trace "A"; go_wp2_with fail
  (try rw [hW1]); (try rw [hgx])
  clear hW1 hgx
  trace "B"; go_region_held3 (fun w' => w'.cell? ⟨q, 0, none⟩ = some (.int .i64 n0) ∧ w'.cell? ⟨q, 1, none⟩ = some (.int .i64 n1) ∧ w'.cell? ⟨gx, 0, none⟩ = some (.pointer (some ⟨g, 0, none⟩))) (first | exact C1.out | exact cq1.out) ((go_at_call 161; refine (HT.out _ ?_).mono ?_; (first | exact HO.out | exact HO.out.drew); rintro e w7 ⟨rfl, ha⟩; have HW7 := Lib.hid ha; have cq1 : Hid (w7.cell? ⟨q, 0, none⟩ = some (.int .i64 n0) ∧ w7.cell? ⟨q, 1, none⟩ = some (.int .i64 n1) ∧ w7.cell? ⟨gx, 0, none⟩ = some (.pointer (some ⟨g, 0, none⟩))) := Lib.hid ⟨by have := (ha.ls 2 rfl).cell rfl (i := 0) (j := 0) (e := intRow n0) (u := .int .i64 n0) rfl rfl; simpa using this, by have := (ha.ls 2 rfl).cell rfl (i := 1) (j := 0) (e := intRow n1) (u := .int .i64 n1) rfl rfl; simpa using this, (ha.blk 3 rfl).cell 0⟩; clear ha))
  all_goals
    trace "C"; go_wp2_with fail
    go_ret2
    exact ⟨rfl, HW7.out.take 2⟩
set_option maxHeartbeats 1600000 in
theorem pdo_varint (w0 : World) (T : RTabs w0) (R : Thing) (g : Nat) (s : TkS) (q c : Nat) (n0 : Int) (h0 : 0 ≤ n0) (h9 : n0 ≤ 9999) (d : ByteArray) (w : World) (ho : Own w0 [] w [talkT g s, R, Thing.lst 3 1 (.slice (some ⟨q, 0, none⟩) 1 c) [intRow n0]]) :
    Calls Tryz.prog 144 #[.agg #[.pointer (some ⟨g, 0, none⟩)], .string ⟨#[118, 97, 114, 105, 110, 116]⟩, .slice (some ⟨q, 0, none⟩) 1 c, .string d] w fun e w' => e = .returned (.tuple #[.string ⟨(tells (vbytes n0)).toArray⟩, errV 0]) ∧ Own w0 [] w' [talkT g s, R] := by
  have HO := Lib.hid (ho.alloc 129 #[.pointer (some ⟨g, 0, none⟩)])
  obtain ⟨W1, hW1⟩ : ∃ W1, w.alloc (.cells #[.pointer (some ⟨g, 0, none⟩)] 129) = W1 := ⟨_, rfl⟩
  obtain ⟨gx, hgx⟩ : ∃ x, w.heap.size = x := ⟨_, rfl⟩
  rw [hW1, hgx] at HO
  have cb : W1.cell? ⟨gx, 0, none⟩ = some (.pointer (some ⟨g, 0, none⟩)) := (HO.out.blk 3 rfl).cell 0
  have c0 : W1.cell? ⟨q, 0, none⟩ = some (.int .i64 n0) := by have := (HO.out.ls 2 rfl).cell rfl (i := 0) (j := 0) (e := intRow n0) (u := .int .i64 n0) rfl rfl; simpa using this
  have HS : Hid (Since w0 W1) := Lib.hid HO.out.since
  have HV : Hid (Calls Tryz.prog 162 #[.int .i64 n0] W1 fun e w' => e = .returned (.tuple #[.string ⟨(vbytes n0).toArray⟩, .nilIface]) ∧ Below W1.heap.size W1 w') := Lib.hid (by
    have := vput_any n0 W1 (T.k.later HS.out)
    have e1 : MayBe n0 := ⟨h0, by omega⟩
    unfold vputL vputE at this
    rw [if_pos e1, if_pos e1, errV_zero] at this
    exact this)
  have hsz : (⟨(vbytes n0).toArray⟩ : ByteArray).size = (vbytes n0).length := by show (vbytes n0).toArray.size = _; simp
  have hln := vbytes_length n0
  have hlo : longN n0 = 1 ∨ longN n0 = 2 ∨ longN n0 = 4 := by unfold longN; omega
  have HX := Lib.hid (fun W (hW : Since w0 W) => ptexts ⟨(vbytes n0).toArray⟩ (by omega) (by omega) W (T.p.later hW))
  have HE : Hid ((⟨(vbytes n0).toArray⟩ : ByteArray).data.toList = vbytes n0) := Lib.hid (by simp)
  rw [HE.out] at HX
  generalize vbytes n0 = V at *
  clear ho hsz hln hlo h0 h9
  go_enter Tryz.func144, Tryz.ntmps144
  trace "A"; go_wp2_with fail
  (try rw [hW1]); (try rw [hgx])
  refine HV.out.mono ?_
  rintro e w2 ⟨rfl, hb2⟩
  have HO2 := Lib.hid (HO.out.later hb2)
  clear hb2
  trace "B"; go_wp2_with fail
  refine (HX.out _ HO2.out.since).mono ?_
  rintro e w3 ⟨rfl, hb3⟩
  have HO3 := Lib.hid (HO2.out.later hb3)
  clear hb3
  trace "C"; go_wp2_with fail
  go_ret2
  exact ⟨rfl, HO3.out.take 2⟩
set_option maxHeartbeats 1600000 in
theorem pdo_need (w0 : World) (T : RTabs w0) (R : Thing) (g : Nat) (s : TkS) (q c : Nat) (n0 n1 : Int) (h0 : 0 ≤ n0) (h9 : n0 ≤ 9999) (d : ByteArray) (w : World) (ho : Own w0 [] w [talkT g s, R, Thing.lst 3 1 (.slice (some ⟨q, 0, none⟩) 2 c) [intRow n0, intRow n1]]) :
    Calls Tryz.prog 144 #[.agg #[.pointer (some ⟨g, 0, none⟩)], .string ⟨#[110, 101, 101, 100]⟩, .slice (some ⟨q, 0, none⟩) 2 c, .string d] w fun e w' => e = .returned (.tuple #[.string ⟨(Lib.itoa (needV n0 n1)).toArray⟩, errV (needE n0 n1)]) ∧ Own w0 [] w' [talkT g s, R] := by
  have HO := Lib.hid (ho.alloc 129 #[.pointer (some ⟨g, 0, none⟩)])
  obtain ⟨W1, hW1⟩ : ∃ W1, w.alloc (.cells #[.pointer (some ⟨g, 0, none⟩)] 129) = W1 := ⟨_, rfl⟩
  obtain ⟨gx, hgx⟩ : ∃ x, w.heap.size = x := ⟨_, rfl⟩
  rw [hW1, hgx] at HO
  have cb : W1.cell? ⟨gx, 0, none⟩ = some (.pointer (some ⟨g, 0, none⟩)) := (HO.out.blk 3 rfl).cell 0
  have HN := Lib.hid (fun W => need_any n0 n1 W)
  have hv : 0 ≤ needV n0 n1 ∧ needV n0 n1 ≤ 4 := by
    unfold needV
    split
    · have := leastN_bounds (n0 - n1); omega
    · omega
  have HI := Lib.hid (fun W (hW : Since w0 W) => itoaC (needV n0 n1) hv.1 (by omega) W (T.p.later hW))
  generalize needE n0 n1 = E at *
  generalize needV n0 n1 = V at *
  have c0 : W1.cell? ⟨q, 0, none⟩ = some (.int .i64 n0) := by have := (HO.out.ls 2 rfl).cell rfl (i := 0) (j := 0) (e := intRow n0) (u := .int .i64 n0) rfl rfl; simpa using this
  have c1 : W1.cell? ⟨q, 1, none⟩ = some (.int .i64 n1) := by have := (HO.out.ls 2 rfl).cell rfl (i := 1) (j := 0) (e := intRow n1) (u := .int .i64 n1) rfl rfl; simpa using this
  have C1 := Lib.hid (⟨c0, c1⟩ : W1.cell? ⟨q, 0, none⟩ = some (.int .i64 n0) ∧ W1.cell? ⟨q, 1, none⟩ = some (.int .i64 n1))
  clear ho hv h0 h9
  go_enter Tryz.func144, Tryz.ntmps144
  trace "A"; go_wp2_with fail
  (try rw [hW1]); (try rw [hgx])
  clear hW1 hgx
  trace "B"; go_quiet ((go_at_call 164; exact quiet_a (HN.out _)))
  trace "C"; go_wp2_with fail
  refine (HI.out _ (HO.out.since.drewN _)).mono ?_
  rintro e w3 ⟨rfl, hb3⟩
  have HO3 := Lib.hid ((HO.out.drewN _).later hb3)
  clear hb3
  trace "D"; go_wp2_with fail
  go_ret2
  exact ⟨rfl, HO3.out.take 2⟩
set_option maxHeartbeats 1600000 in
theorem pdo_count (w0 : World) (T : RTabs w0) (R : Thing) (g : Nat) (s : TkS) (v : Value) (d : ByteArray) (w : World) (ho : Own w0 [] w [talkT g s, R]) :
    Calls Tryz.prog 144 #[.agg #[.pointer (some ⟨g, 0, none⟩)], .string ⟨#[99, 111, 117, 110, 116]⟩, v, .string d] w fun e w' => e = .returned (.tuple #[.string ⟨(Lib.itoa (s.L.length : Int)).toArray⟩, errV 0]) ∧ Own w0 [] w' [talkT g s, R] := by
  have HO := Lib.hid (ho.alloc 129 #[.pointer (some ⟨g, 0, none⟩)])
  obtain ⟨W1, hW1⟩ : ∃ W1, w.alloc (.cells #[.pointer (some ⟨g, 0, none⟩)] 129) = W1 := ⟨_, rfl⟩
  obtain ⟨gx, hgx⟩ : ∃ x, w.heap.size = x := ⟨_, rfl⟩
  rw [hW1, hgx] at HO
  have cb : W1.cell? ⟨gx, 0, none⟩ = some (.pointer (some ⟨g, 0, none⟩)) := (HO.out.blk 2 rfl).cell 0
  obtain ⟨S, hS, -⟩ := HO.out.at_ 0 rfl
  have HC := Lib.hid (tcount g s W1 S hS)
  have hok : s.L.length ≤ 40 := by obtain ⟨p, ok, _⟩ := talkT_open hS; exact ok.1
  have HI := Lib.hid (fun W (hW : Since w0 W) => itoaC (s.L.length : Int) (by omega) (by omega) W (T.p.later hW))
  generalize s.L.length = nl at *
  clear ho hS hok
  go_enter Tryz.func144, Tryz.ntmps144
  trace "A"; go_wp2_with fail
  (try rw [hW1]); (try rw [hgx])
  refine HC.out.mono ?_
  rintro e w2 ⟨rfl, rfl⟩
  trace "B"; go_wp2_with fail
  refine (HI.out _ HO.out.since).mono ?_
  rintro e w3 ⟨rfl, hb3⟩
  have HO3 := Lib.hid (HO.out.later hb3)
  clear hb3
  trace "C"; go_wp2_with fail
  go_ret2
  exact ⟨rfl, HO3.out.take 2⟩
end Go.Proofs.YtmfbaijbigodkaaGreatDoor
