/- TopPaths: for every data and every list of arrivals the law returns true: on one who is not known yet no more than three times what came is sent, and what is sent is read. Condition: the tables of kinds and counts hold what the program's text lays (the row lists them, the card ties them). -/
import Derived.Test.YtaindcicloapfaaDoorZT
import Derived.StillTailTactics
import Derived.Test.YtaindcicloapfaaDoorCards
import Derived.Test.YtaindcicloapfaaDoorTie
import Derived.Deep.DeepHandedRow
import Derived.LaidLaws
import Derived.LaidHandle
import Derived.Deep.DeepWitnessRowRef
import Derived.Test.YtaindcicloapfaaDoorRows
import Derived.WalkKit
import Derived.ProofKit
import Derived.OpenShut
import Derived.ShutString
import Derived.ChangeOld
import Derived.Below
import Derived.Lib.SmallJoins
import Derived.Deep.Slices
import Derived.Deep.Matrix
import Derived.Deep.Strs
namespace Go.Proofs.YtaindcicloapfaaDoor.topPaths
open Go.ChangeShapes Go.WideShapes Go.ChangeAt Go.RowKit
open Go.ChangeMaps (open_string shut_string)
set_option linter.unusedVariables false

noncomputable abbrev laidWorld := YtaindcicloapfaaDoor.laidWorld2
theorem laidMetW (os : Os) (args : Array Value) : laidMetH Tryd.prog Rows.topPathsRow.laid ((laidWorld os).forCall (fun _ _ => 0) ⟨#[], args, []⟩).memory := laidMet_kc os args
theorem laidWalk {W : World} (h : laidMetH Tryd.prog Rows.topPathsRow.laid W) : KTab W ∧ CTab W := laid_kc h
def q1 : EnS := (EnS.new 9).write ⟨#[113]⟩
theorem q1_eq : q1 = { EnS.new 9 with data := ⟨#[113]⟩ } := (new_write (n := 9) (d := ⟨#[113]⟩) (by decide)).1
theorem q1_ok : EnOk q1 := (EnOk.new (by decide) (by decide)).write ⟨#[113]⟩
theorem fact_take : (EnS.new 9).takeE q1.packet = 0 := by
  rw [(first_take q1_ok (by rw [q1_eq]; rfl) (by rw [q1_eq]; rfl) rfl).1, q1_eq]
  decide
theorem fact_read : ((EnS.new 9).take q1.packet).readS 5 = ⟨#[113]⟩ := by
  rw [(first_take q1_ok (by rw [q1_eq]; rfl) (by rw [q1_eq]; rfl) rfl).2, q1_eq]
  decide
theorem pk_size {x : EnS} (h : EnOk x) (hm : x.made.length ≤ 1000000) : (ByteArray.mk x.packet.toArray).size ≤ 9223372036854775000 := by
  have := (h.packetOk hm).2.2
  show x.packet.toArray.size ≤ _
  rw [List.size_toArray]; omega
theorem etakeP (g : Nat) (s x : EnS) (w : World) (S : List Nat) (h : (endT g s).is w S) (hK : KTab w) (hC : CTab w) (h1000 : s.made.length ≤ 1000) (hx : EnOk x) (hm : x.made.length ≤ 1000000) :
    Calls Tryd.prog 13 #[.pointer (some ⟨g, 0, none⟩), .string ⟨x.packet.toArray⟩] w fun e w' => e = .returned (errV (s.takeE x.packet)) ∧ Leaves w w' S (endT g (s.take x.packet)) := by
  have h1 := etake g s ⟨x.packet.toArray⟩ w S h hK hC h1000 (pk_size hx hm)
  simp only at h1
  exact h1
set_option maxRecDepth 100000 in
set_option maxHeartbeats 3200000 in
theorem one_yes (w : World) (hkc : KTab w ∧ CTab w) : Calls Tryd.prog 21 #[] w fun e w' => e = .returned (.bool true) ∧ Below w.heap.size w w' := by
  have HK := Lib.hid hkc.1
  have HC := Lib.hid hkc.2
  have F1 := Lib.hid fact_take
  have F2 := Lib.hid fact_read
  have FW : Hid ((EnS.new 9).writeE ⟨#[113]⟩ = 0) := Lib.hid (new_write (n := 9) (d := ⟨#[113]⟩) (by decide)).2
  clear hkc
  go_enter Tryd.func21, Tryd.ntmps21
  go_wp2_with fail
  refine (enew 9 (by decide) (by decide) _).mono ?_
  rintro e w1 ⟨g1, rfl, hl⟩
  have HW1 : Hid (Own w [] w1 [endT g1 (EnS.new 9)]) := Lib.hid ((Own.start w).made hl)
  clear hl
  go_wp2_with fail
  refine (enew 9 (by decide) (by decide) _).mono ?_
  rintro e w2 ⟨g2, rfl, hl⟩
  have HW2 : Hid (Own w [] w2 [endT g1 (EnS.new 9), endT g2 (EnS.new 9)]) := Lib.hid (HW1.out.made hl)
  clear hl HW1
  obtain ⟨S, hS, up⟩ := HW2.out.at_ 0 rfl
  go_wp2_with fail
  refine (ewrite g1 (EnS.new 9) ⟨#[113]⟩ _ S hS (by decide)).mono ?_
  rintro e w3 ⟨rfl, hl⟩
  rw [FW.out, errV_zero]
  have HW3 : Hid (Own w [] w3 [endT g1 q1, endT g2 (EnS.new 9)]) := Lib.hid (up _ _ hl)
  clear hl HW2 hS up
  obtain ⟨S, hS, up⟩ := HW3.out.at_ 0 rfl
  go_wp2_with fail
  refine (emake g1 q1 _ S hS (HK.out.later HW3.out.since) (by rw [q1_eq]; show 0 ≤ 1000; omega)).mono ?_
  rintro e w4 ⟨rfl, hl⟩
  have HW4 : Hid (Own w [] w4 [endT g1 q1.make, endT g2 (EnS.new 9)]) := Lib.hid (up _ _ hl)
  clear hl HW3 hS up
  obtain ⟨S, hS, up⟩ := HW4.out.at_ 1 rfl
  go_wp2_with fail
  refine (etakeP g2 (EnS.new 9) q1 _ S hS (HK.out.later HW4.out.since) (HC.out.later HW4.out.since) (by show 0 ≤ 1000; omega) q1_ok (by rw [q1_eq]; show 0 ≤ 1000000; omega)).mono ?_
  rintro e w5 ⟨rfl, hl⟩
  rw [F1.out, errV_zero]
  have HW5 : Hid (Own w [] w5 [endT g1 q1.make, endT g2 ((EnS.new 9).take q1.packet)]) := Lib.hid (up _ _ hl)
  clear hl HW4 hS up
  obtain ⟨S, hS, up⟩ := HW5.out.at_ 1 rfl
  go_wp2_with fail
  refine (eread g2 ((EnS.new 9).take q1.packet) 5 _ S hS).mono ?_
  rintro e w6 ⟨rfl, hl⟩
  rw [show EnS.readE 5 = 0 from rfl, errV_zero, F2.out]
  have HW6 := Lib.hid (up _ _ hl)
  clear hl HW5 hS up
  go_wp2_with fail
  go_ret
  exact ⟨rfl, HW6.out.since⟩
/-- a stream at g -/
def strT (g : Nat) (M : Plc) (t : Nat) : Thing where
  is w S := Sz w g M t ∧ S = [g]
  lt h k hk := by
    obtain ⟨hz, rfl⟩ := h
    rw [List.mem_singleton.1 hk]; exact hz.bl.lt
  kept h ho hd := by
    obtain ⟨hz, rfl⟩ := h
    exact ⟨hz.kept ho (fun hm => hd _ (by simp) hm), rfl⟩
/-- a beginning of D lies there -/
structure Pre (M : Plc) (D : ByteArray) (a : Nat) : Prop where
  len : M.length = 60
  of_ : Of M D.data.toList
  is_ : ∀ j, (M.at j).isSome = decide (j < a)
  le : a ≤ D.size
theorem Pre.new (D : ByteArray) : Pre Plc.new D 0 := ⟨Plc.new_len, Of.new _, fun j => by rw [Plc.new_at]; simp, Nat.zero_le _⟩
theorem Pre.put {M : Plc} {D : ByteArray} {a b : Nat} (h : Pre M D a) (hD : D.size ≤ 60) (hab : a ≤ b) (hb : b ≤ D.size) : putE M a (D.extract a b).data.toList = 0 ∧ Pre (putM M a (D.extract a b).data.toList) D b := by
  obtain ⟨q1, q2, q3⟩ := of_put h.len h.of_ hD hab hb
  refine ⟨q1, ⟨by rw [putM_len]; exact h.len, q2, fun j => ?_, hb⟩⟩
  rw [q3]
  by_cases c : a ≤ j ∧ j < b
  · rw [if_pos c, decide_eq_true c.2]; rfl
  · rw [if_neg c, h.is_]
    exact decide_eq_decide.2 (by omega)
theorem Pre.all {M : Plc} {D : ByteArray} {a : Nat} (h : Pre M D a) (hD : D.size ≤ 60) : takeS M 0 60 = D.extract 0 a := by
  have hle := h.le
  have h1 := of_take h.of_ (t := 0) (Nat.zero_le _) 60
  have hr : readyN M 0 = a := readyN_eq (fun j hj => by rw [h.is_]; exact decide_eq_true (by omega)) (by omega) (Or.inl (by rw [h.is_]; exact decide_eq_false (by omega)))
  have hk : takeK M 0 60 = a := by unfold takeK; rw [hr]; show min 60 a = a; omega
  rw [hk, Nat.zero_add] at h1
  have h2 := h1.2
  rw [show D.extract 0 0 = ByteArray.empty from ByteArray.size_eq_zero_iff.1 (by rw [ByteArray.size_extract]; omega), ByteArray.empty_append] at h2
  exact h2
theorem came_ok {i o n : Int} {k : Bool} (h : PathOk i o k) (hc : cameE i o k n = 0) : PathOk (i + n) o k := by
  unfold cameE at hc
  rw [if_pos (pathE_ok h)] at hc
  have h1 := h.i1
  split at hc
  · exact ⟨by omega, by omega, h.o1, h.o2, fun e => by have := h.kn e; omega⟩
  · cases hc
theorem send_ok {i o n : Int} (h : PathOk i o false) (hc : sendE i o false n = 0) : PathOk i (o + n) false := by
  unfold sendE at hc
  rw [if_pos (pathE_ok h)] at hc
  have h1 := h.o1
  split at hc
  · next c =>
    split at hc
    · cases hc
    · next c2 => exact ⟨h.i1, h.i2, by omega, by omega, fun _ => by have c3 : ¬ 3 * i < o + n := fun hh => c2 ⟨rfl, hh⟩; omega⟩
  · cases hc
/-- the frame that goes -/
def pfv (a : Nat) (x : ByteArray) (A : Option Addr) : FrmV := ⟨⟨3, [(a : Int)], x⟩, A, 1⟩
theorem pk_ok {i a : Nat} {x : ByteArray} (hi : i ≤ 40) (h1 : a + x.size ≤ 60) (h2 : x.size ≤ 20) :
    pktE i ((i : Int) - 1) [⟨3, [(a : Int)], x⟩] = 0 ∧ pktV i ((i : Int) - 1) [⟨3, [(a : Int)], x⟩] = pktB i ((i : Int) - 1) [⟨3, [(a : Int)], x⟩] ∧ (pktB i ((i : Int) - 1) [⟨3, [(a : Int)], x⟩]).length ≤ 200 ∧
    openE (pktB i ((i : Int) - 1) [⟨3, [(a : Int)], x⟩]) i = 0 ∧ openL (pktB i ((i : Int) - 1) [⟨3, [(a : Int)], x⟩]) i = [⟨3, [(a : Int)], x⟩] := by
  have hN : NeedOk (i : Int) ((i : Int) - 1) := ⟨⟨by omega, by omega⟩, by omega, by omega⟩
  have hE : frmsE [⟨3, [(a : Int)], x⟩] = 0 := frmsE_of (fun f hf => by rw [List.mem_singleton.1 hf]; exact frmE_pcF (p := ⟨a, x⟩) h1 h2)
  have hB : (frmsB [⟨3, [(a : Int)], x⟩]).length ≤ 120 * 1 := frmsB_short (M := [⟨3, [(a : Int)], x⟩]) (fun f hf => by rw [List.mem_singleton.1 hf]; exact frmE_pcF (p := ⟨a, x⟩) h1 h2)
  obtain ⟨b1, b2⟩ := leastN_bounds ((i : Int) - ((i : Int) - 1))
  have hhd := headB_len (n := (i : Int)) b1 b2
  have hl : (pktB i ((i : Int) - 1) [⟨3, [(a : Int)], x⟩]).length ≤ 200 := by
    unfold pktB
    rw [List.length_append]; omega
  obtain ⟨a1, a2⟩ := pkt_ok hN (L := [⟨3, [(a : Int)], x⟩]) (by simp) (by simp) hE (by omega)
  obtain ⟨o1, o2, o3, _⟩ := open_about (next := (i : Int)) a1 ⟨by omega, by omega⟩ (by omega) (by omega)
  exact ⟨a1, a2, hl, o1, o3⟩
theorem one_frm {W : World} {a : Nat} {x : ByteArray} (hx : x.size ≤ 60) (ha : a ≤ 60) :
    FrmsIn ((W.alloc (.cells #[.int .i64 (a : Int)] 3)).alloc (.cells #[.int .i64 3, .slice (some ⟨W.heap.size, 0, none⟩) 1 1, .string x] 33)) (.slice (some ⟨W.heap.size + 1, 0, none⟩) 1 1) [pfv a x (some ⟨W.heap.size, 0, none⟩)] := by
  have h1 : BlockIs ((W.alloc (.cells #[.int .i64 (a : Int)] 3)).alloc (.cells #[.int .i64 3, .slice (some ⟨W.heap.size, 0, none⟩) 1 1, .string x] 33)) W.heap.size 3 #[.int .i64 (a : Int)] := (BlockIs.fresh W 3 _).alloc _
  have h2 : BlockIs ((W.alloc (.cells #[.int .i64 (a : Int)] 3)).alloc (.cells #[.int .i64 3, .slice (some ⟨W.heap.size, 0, none⟩) 1 1, .string x] 33)) (W.heap.size + 1) 33 #[.int .i64 3, .slice (some ⟨W.heap.size, 0, none⟩) 1 1, .string x] := BlockIs.fresh_at (by simp)
  refine ⟨fun p hp => ?_, rd_of_block (k := 3) (n := 1) (cap := 1) (es := [frmRow (pfv a x (some ⟨W.heap.size, 0, none⟩))]) h2 (by intro e he; rw [List.mem_singleton.1 he]; exact frmRow_one _) rfl (by omega) (by omega)⟩
  rw [List.mem_singleton.1 hp]
  exact ⟨show -9223372036854775808 ≤ (3 : Int) ∧ (3 : Int) ≤ 9223372036854775807 by decide, by show x.size ≤ maxLen; unfold maxLen; omega, ints_one h1 ⟨by omega, by omega⟩⟩

set_option maxRecDepth 100000 in
set_option maxHeartbeats 6400000 in
theorem walk (d : ByteArray) (v1 : Value) (Z : List Int) (w : World) (w0 : d.size ≤ 140737488351232) (w1 : IntsIn w v1 Z) (hkc : KTab w ∧ CTab w) :
    Calls Tryd.prog 6 #[.string d, v1] w fun e w' => e = .returned (.bool true) ∧ Below w.heap.size w w' := by
  have HK := Lib.hid hkc.1
  have HC := Lib.hid hkc.2
  obtain ⟨bd0, A, cap, rfl, hle0, hm0, hc⟩ := w1
  unfold maxLen at hm0
  have hZ : Z.length ≤ 9223372036854775807 := by omega
  have HZ := Lib.hid hc
  have BD := Lib.hid bd0
  have HONE := Lib.hid (one_yes w hkc)
  clear hc bd0 hkc
  go_enter Tryd.func6, Tryd.ntmps6
  go_wp2_with fail
  refine HONE.out.mono ?_
  rintro e w1 ⟨rfl, hb1⟩
  clear HONE
  have HW1 : Hid (Own w [] w1 []) := Lib.hid ((Own.start w).later hb1)
  clear hb1
  by_cases h60 : d.size ≤ 60
  case neg =>
    have h60' : (60 : Int) < (d.size : Int) := by omega
    clear h60
    go_wp2_with fail
    go_ret
    exact ⟨rfl, HW1.out.since⟩
  have h60x := Lib.hid h60
  have h60' : decide ((60 : Int) < (d.size : Int)) = false := by simp; omega
  go_wp2_with fail
  refine (snew _).mono ?_
  rintro e w2 ⟨rfl, hz, hb2⟩
  have HW2 : Hid (Own w [] (w2.alloc (.cells #[.int .i64 0, .int .i64 0, .bool false] 53)) [strT w1.heap.size Plc.new 0, Thing.block w2.heap.size 53 #[.int .i64 0, .int .i64 0, .bool false]]) := Lib.hid ((HW1.out.add hb2 (S := [w1.heap.size]) (t := strT w1.heap.size Plc.new 0) ⟨hz, rfl⟩ (by simp)).alloc _ _)
  obtain ⟨gs, hgs⟩ : ∃ g, w1.heap.size = g := ⟨_, rfl⟩
  obtain ⟨gp, hgp⟩ : ∃ g, w2.heap.size = g := ⟨_, rfl⟩
  rw [hgs, hgp] at HW2
  clear hz hb2
  rw [hgs]
  go_wp2_with fail
  clear hgs hgp HW1
  go_loopw [8, 9] (fun s8 s9 wr => ∃ (k a : Nat) (M : Plc) (I O : Int), s9 = .int .i64 k ∧ k ≤ 40 ∧ s8 = .int .i64 a ∧ Pre M d a ∧ PathOk I O false ∧ Own w [] wr [strT gs M 0, Thing.block gp 53 #[.int .i64 I, .int .i64 O, .bool false]]) (fun _ s9 _ => 40 - (intOf s9).toNat)
  case atStart => exact ⟨0, 0, _, 0, 0, rfl, by omega, rfl, Pre.new d, ⟨by decide, by decide, by decide, by decide, fun _ => by decide⟩, HW2.out⟩
  case round =>
    obtain ⟨k, a, M, I, O, rfl, hk, rfl, hp, hok, hw⟩ := hrel
    have HW := Lib.hid hw
    have HP := Lib.hid hp
    have HOK := Lib.hid hok
    clear hw hp hok HW2
    have HTK := Lib.hid (fun W (h : Sz W gs M 0) => stake gs M 0 60 W h)
    have HALL := Lib.hid (HP.out.all h60x.out)
    by_cases hl : k < Z.length
    case neg =>
      have hl' : decide ((k : Int) < (Z.length : Int)) = false := by simp; omega
      go_wp2_with fail
      obtain ⟨S, ⟨hz, rfl⟩, up⟩ := HW.out.at_ 0 rfl
      refine (HTK.out _ hz).mono ?_
      rintro e w3 ⟨rfl, hz3, ho3⟩
      rw [HALL.out, show stkE 60 = 0 from rfl, errV_zero]
      have HW3 := Lib.hid (up w3 (strT gs M (0 + takeK M 0 60)) ⟨[gs], ⟨hz3, rfl⟩, ho3, fun k hk => Or.inl hk⟩)
      have hle := HP.out.le
      clear hz hz3 ho3 up HW HTK
      go_wp2_with fail
      go_ret
      exact ⟨rfl, HW3.out.since⟩
    by_cases h40 : k < 40
    case neg =>
      have hl' : (k : Int) < (Z.length : Int) := by omega
      have h40' : decide ((k : Int) < 40) = false := by simp; omega
      go_wp2_with fail
      obtain ⟨S, ⟨hz, rfl⟩, up⟩ := HW.out.at_ 0 rfl
      refine (HTK.out _ hz).mono ?_
      rintro e w3 ⟨rfl, hz3, ho3⟩
      rw [HALL.out, show stkE 60 = 0 from rfl, errV_zero]
      have HW3 := Lib.hid (up w3 (strT gs M (0 + takeK M 0 60)) ⟨[gs], ⟨hz3, rfl⟩, ho3, fun k hk => Or.inl hk⟩)
      have hle := HP.out.le
      clear hz hz3 ho3 up HW HTK
      go_wp2_with fail
      go_ret
      exact ⟨rfl, HW3.out.since⟩
    have hl' : (k : Int) < (Z.length : Int) := by omega
    have h40' : (k : Int) < 40 := by omega
    obtain ⟨b, off, hA, hlt, hcc⟩ := HZ.out (by intro h0; rw [h0] at hl; simp at hl)
    subst hA
    have cz : wr.cell? ⟨b, off + k, none⟩ = some (.int .i64 (ith Z k)) := Since.cell HW.out.since hlt (hcc k hl)
    have p0 : wr.cell? ⟨gp, 0, none⟩ = some (.int .i64 I) := (HW.out.blk 1 rfl).cell 0
    have p1 : wr.cell? ⟨gp, 1, none⟩ = some (.int .i64 O) := (HW.out.blk 1 rfl).cell 1
    have p2 : wr.cell? ⟨gp, 2, none⟩ = some (.bool false) := (HW.out.blk 1 rfl).cell 2
    have pl : gp < wr.heap.size := (HW.out.blk 1 rfl).lt
    have bl : b < wr.heap.size := Nat.lt_of_lt_of_le hlt (Since.le HW.out.since)
    clear hcc
    obtain ⟨c, hc⟩ : ∃ c, ith Z k = c := ⟨_, rfl⟩
    rw [hc] at cz
    clear hc
    obtain ⟨E, hE⟩ : ∃ E, cameE I O false c = E := ⟨_, rfl⟩
    have HE := Lib.hid hE
    have HCA := Lib.hid (fun W => came_any I O false c W)
    rw [hE] at HCA
    clear hE
    go_upto_region 12 with fail
    go_cut [10, 11] (fun s10 s11 wc => ∃ q : Nat, s10 = .pointer (some ⟨q, 0, none⟩) ∧ s11 = errV E ∧ Own w [] wc [strT gs M 0, Thing.block gp 53 #[.int .i64 I, .int .i64 O, .bool false], Thing.block q 53 #[.int .i64 (cameI I O false c), .int .i64 (cameO I O false c), .bool (cameK I O false c)]])
    case first =>
      go_region_law (first | (go_simp; go_at_call 23; refine (HCA.out _).mono ?_; rintro e w3 ⟨rfl, hb3⟩; first | (have hq : BlockIs w3 wr.heap.size 53 #[.int .i64 0, .int .i64 0, .bool false] := after_alloc (W := wr.drew) hb3; have q0 : w3.cell? ⟨wr.heap.size, 0, none⟩ = some (.int .i64 0) := hq.cell 0; have q1 : w3.cell? ⟨wr.heap.size, 1, none⟩ = some (.int .i64 0) := hq.cell 1; have q2 : w3.cell? ⟨wr.heap.size, 2, none⟩ = some (.bool false) := hq.cell 2; have qf := hq.free; have ql := hq.lt) | skip))
      all_goals
        go_wp2_with fail
        go_meet
        case rel => first
          | exact ⟨_, rfl, rfl, (((((HW.out.later (show Since wr _ from (Since.refl wr).drew)).alloc _ _).later hb3).put 2 rfl 0 _).put 2 rfl 1 _).put 2 rfl 2 _⟩
          | exact ⟨_, rfl, rfl, ((HW.out.later (show Since wr _ from (Since.refl wr).drew)).later hb3).alloc _ _⟩
    case rest =>
      obtain ⟨q, rfl, rfl, hw9⟩ := hcut
      have HW9 := Lib.hid hw9
      clear hw9 HW cz p0 p1 p2 pl bl
      repeat ((fail_if_success (with_reducible refine stop_at 13 ?_)); first | fail | go_values | go_skip | go_guarded | go_step | go_upon | go_back | go_simp)
      go_cut [11] (fun s11 wd => ∃ (I' O' : Int) (y1 y2 y3 : Value), PathOk I' O' false ∧ Own w [] wd [strT gs M 0, Thing.block gp 53 #[.int .i64 I', .int .i64 O', .bool false], Thing.block q 53 #[y1, y2, y3]])
      case first =>
        have p0 : wc.cell? ⟨gp, 0, none⟩ = some (.int .i64 I) := (HW9.out.blk 1 rfl).cell 0
        have p1 : wc.cell? ⟨gp, 1, none⟩ = some (.int .i64 O) := (HW9.out.blk 1 rfl).cell 1
        have p2 : wc.cell? ⟨gp, 2, none⟩ = some (.bool false) := (HW9.out.blk 1 rfl).cell 2
        have pf := (HW9.out.blk 1 rfl).free
        have pl : gp < wc.heap.size := (HW9.out.blk 1 rfl).lt
        have q0 : wc.cell? ⟨q, 0, none⟩ = some (.int .i64 (cameI I O false c)) := (HW9.out.blk 2 rfl).cell 0
        have q1 : wc.cell? ⟨q, 1, none⟩ = some (.int .i64 (cameO I O false c)) := (HW9.out.blk 2 rfl).cell 1
        have q2 : wc.cell? ⟨q, 2, none⟩ = some (.bool (cameK I O false c)) := (HW9.out.blk 2 rfl).cell 2
        have ql : q < wc.heap.size := (HW9.out.blk 2 rfl).lt
        by_cases hE0 : E = 0
        · subst hE0
          have hi : cameI I O false c = I + c := by unfold cameI; rw [if_pos HE.out]
          have ho : cameO I O false c = O := by unfold cameO; rw [if_pos HE.out]
          have hk : cameK I O false c = false := by unfold cameK; rw [if_pos HE.out]
          have HOK2 : Hid (PathOk (I + c) O false) := Lib.hid (came_ok HOK.out HE.out)
          rw [hi] at q0
          rw [ho] at q1
          rw [hk] at q2
          clear hi ho hk
          rw [errV_zero]
          go_wp2_with fail
          go_meet
          case rel => exact ⟨I + c, O, _, _, _, HOK2.out, ((HW9.out.put 1 rfl 0 _).put 1 rfl 1 _).put 1 rfl 2 _⟩
        · rw [errV_pos hE0]
          clear hE0
          go_wp2_with fail
          go_meet
          case rel => exact ⟨I, O, _, _, _, HOK.out, HW9.out⟩
      case rest =>
        obtain ⟨I', O', y1, y2, y3, hok, hw⟩ := hcut
        have HWA := Lib.hid hw
        have HOKA := Lib.hid hok
        clear hw hok HW9 HOK HCA HE
        have hle := HP.out.le
        have ha60 : a ≤ 60 := by have := h60x.out; omega
        have hwr : IntKind.i64.wrap ((a : Int) + 20) = (a : Int) + 20 := IntWalk.i64_in _ (by omega)
        repeat ((fail_if_success (with_reducible refine stop_at 16 ?_)); first | fail | go_values | go_skip | go_guarded | go_step | go_upon | go_back | go_simp)
        go_cut [12] (fun s12 wd => ∃ e : Nat, s12 = .int .i64 e ∧ a ≤ e ∧ e ≤ d.size ∧ e ≤ a + 20 ∧ wd = wc)
        case first =>
          by_cases h20 : d.size < a + 20
          · have h20' : (d.size : Int) < (a : Int) + 20 := by omega
            go_wp2_with fail
            go_meet
            case rel => exact ⟨d.size, rfl, hle, Nat.le_refl _, by omega, rfl⟩
          · have h20' : decide ((d.size : Int) < (a : Int) + 20) = false := by simp; omega
            go_wp2_with fail
            go_meet
            case rel => exact ⟨a + 20, by go_num, by omega, by omega, by omega, rfl⟩
        case rest =>
          obtain ⟨e, rfl, e1, e2, e3, rfl⟩ := hcut
          have hx : (d.extract a e).size = e - a := by rw [ByteArray.size_extract]; omega
          obtain ⟨x, hxe⟩ : ∃ x, d.extract a e = x := ⟨_, rfl⟩
          have HX := Lib.hid hxe
          rw [hxe] at hx
          have hxz : x.size ≤ 20 := by omega
          have HF := Lib.hid (one_frm (W := wc) (a := a) (x := x) (by omega) ha60)
          have HPR := Lib.hid (fun W h1 h2 h3 => pkprint k ((k : Int) - 1) (some ⟨wc.heap.size + 1, 0, none⟩) 1 1 [pfv a x (some ⟨wc.heap.size, 0, none⟩)] W rfl h1 h2 h3)
          obtain ⟨k1, k2, k3, k4, k5⟩ := pk_ok (i := k) (a := a) (x := x) (by omega) (by have := h60x.out; omega) hxz
          simp only [List.map_cons, List.map_nil, pfv] at HPR
          rw [k1, k2, errV_zero] at HPR
          obtain ⟨B, hB⟩ : ∃ B : ByteArray, ⟨(pktB k ((k : Int) - 1) [⟨3, [(a : Int)], x⟩]).toArray⟩ = B := ⟨_, rfl⟩
          rw [hB] at HPR
          have hBs : B.size ≤ 200 := by rw [← hB]; show (pktB _ _ _).toArray.size ≤ 200; rw [List.size_toArray]; exact k3
          have hBl : B.data.toList = pktB k ((k : Int) - 1) [⟨3, [(a : Int)], x⟩] := by rw [← hB]
          rw [← hBl] at k4 k5
          have K4 := Lib.hid k4
          have K5 := Lib.hid k5
          clear k1 k2 k3 k4 k5 hB hBl
          go_wp2_with fail
          refine (HPR.out _ HF.out (HK.out.later (HWA.out.since.later (show Since wc _ from (by refine Since.out ?_; repeat (first | with_reducible assumption | with_reducible exact Since.refl _ | with_reducible refine Since.later ?_ (by with_reducible assumption) | with_reducible refine Since.only ?_ (by with_reducible assumption) (by first | assumption | omega | (simp; done) | (simp; omega)) | with_reducible refine Since.alloc ?_ _ | with_reducible refine Since.drewN ?_ _ | with_reducible refine Since.drew ?_ | with_reducible refine Since.set ?_ (by first | assumption | omega | (simp; done) | (simp; omega)) _))))) (HC.out.later (HWA.out.since.later (show Since wc _ from (by refine Since.out ?_; repeat (first | with_reducible assumption | with_reducible exact Since.refl _ | with_reducible refine Since.later ?_ (by with_reducible assumption) | with_reducible refine Since.only ?_ (by with_reducible assumption) (by first | assumption | omega | (simp; done) | (simp; omega)) | with_reducible refine Since.alloc ?_ _ | with_reducible refine Since.drewN ?_ _ | with_reducible refine Since.drew ?_ | with_reducible refine Since.set ?_ (by first | assumption | omega | (simp; done) | (simp; omega)) _)))))).mono ?_
          rintro e w4 ⟨rfl, hb4⟩
          have HWB := Lib.hid (HWA.out.later (show Since wc w4 from (by refine Since.out ?_; repeat (first | with_reducible assumption | with_reducible exact Since.refl _ | with_reducible refine Since.later ?_ (by with_reducible assumption) | with_reducible refine Since.only ?_ (by with_reducible assumption) (by first | assumption | omega | (simp; done) | (simp; omega)) | with_reducible refine Since.alloc ?_ _ | with_reducible refine Since.drewN ?_ _ | with_reducible refine Since.drew ?_ | with_reducible refine Since.set ?_ (by first | assumption | omega | (simp; done) | (simp; omega)) _))))
          clear hb4 HWA HF HPR
          have p0 : w4.cell? ⟨gp, 0, none⟩ = some (.int .i64 I') := (HWB.out.blk 1 rfl).cell 0
          have p1 : w4.cell? ⟨gp, 1, none⟩ = some (.int .i64 O') := (HWB.out.blk 1 rfl).cell 1
          have p2 : w4.cell? ⟨gp, 2, none⟩ = some (.bool false) := (HWB.out.blk 1 rfl).cell 2
          have pl : gp < w4.heap.size := (HWB.out.blk 1 rfl).lt
          obtain ⟨R, hR⟩ : ∃ R, roomN I' O' false = R := ⟨_, rfl⟩
          have HRM := Lib.hid (fun W => room_any I' O' false W)
          have hrv : roomV I' O' false = R := by unfold roomV; rw [if_pos (pathE_ok HOKA.out)]; exact hR
          rw [hrv, pathE_ok HOKA.out, errV_zero] at HRM
          have hse := sendE_room HOKA.out (n := (B.size : Int)) (by omega) (by omega)
          rw [hR] at hse
          have HSE := Lib.hid hse
          clear hR hrv hse
          go_wp2_with fail
          refine (HRM.out _).mono ?_
          rintro e w5 ⟨rfl, hb5⟩
          have HWC := Lib.hid (HWB.out.later hb5)
          clear hb5 HWB HRM p0 p1 p2 pl
          have p0 : w5.cell? ⟨gp, 0, none⟩ = some (.int .i64 I') := (HWC.out.blk 1 rfl).cell 0
          have p1 : w5.cell? ⟨gp, 1, none⟩ = some (.int .i64 O') := (HWC.out.blk 1 rfl).cell 1
          have p2 : w5.cell? ⟨gp, 2, none⟩ = some (.bool false) := (HWC.out.blk 1 rfl).cell 2
          have pl : gp < w5.heap.size := (HWC.out.blk 1 rfl).lt
          go_wp2_with fail
          refine (send_any I' O' false (B.size : Int) _).mono ?_
          rintro e w6 ⟨rfl, hb6⟩
          have HWD := Lib.hid (HWC.out.later hb6)
          clear hb6 HWC p0 p1 p2 pl
          have q0 : w6.cell? ⟨q, 0, none⟩ = some y1 := (HWD.out.blk 2 rfl).cell 0
          have q1 : w6.cell? ⟨q, 1, none⟩ = some y2 := (HWD.out.blk 2 rfl).cell 1
          have q2 : w6.cell? ⟨q, 2, none⟩ = some y3 := (HWD.out.blk 2 rfl).cell 2
          have qf := (HWD.out.blk 2 rfl).free
          have ql : q < w6.heap.size := (HWD.out.blk 2 rfl).lt
          by_cases hs : (B.size : Int) ≤ R
          case neg =>
            have hs' : decide ((B.size : Int) ≤ R) = false := by simpa using hs
            rw [errV_pos (fun h => hs (HSE.out.1 h))]
            clear hs
            go_wp2_with fail
            go_roundw
            case rel => exact ⟨k + 1, a, M, I', O', by go_num, by omega, rfl, HP.out, HOKA.out, Own.pick (((HWD.out.put 2 rfl 0 _).put 2 rfl 1 _).put 2 rfl 2 _) [0, 1] (by decide) (fun i t hi => match i, hi with
              | 0, hi => ⟨0, rfl, hi⟩
              | 1, hi => ⟨1, rfl, hi⟩)⟩
            case measure => simp [intOf]; omega
          have hs0 := HSE.out.2 hs
          have hi : sendI I' O' false (B.size : Int) = I' := by unfold sendI; rw [if_pos hs0]
          have ho : sendO I' O' false (B.size : Int) = O' + B.size := by unfold sendO; rw [if_pos hs0]
          have hk : sendK I' O' false (B.size : Int) = false := by unfold sendK; rw [if_pos hs0]
          have HOKB := Lib.hid (send_ok HOKA.out hs0)
          have hkn : decide (3 * I' < O' + (B.size : Int)) = false := by have := HOKB.out.kn rfl; simp; omega
          rw [hs0, hi, ho, hk, errV_zero]
          clear hs0 hi ho hk
          repeat ((fail_if_success (with_reducible refine stop_at 28 ?_)); first | fail | go_values | go_skip | go_guarded | go_step | go_upon | go_back | go_simp)
          have HWE := Lib.hid (((HWD.out.put 2 rfl 0 (.int .i64 I')).put 2 rfl 1 (.int .i64 (O' + (B.size : Int)))).put 2 rfl 2 (.bool false))
          clear HWD q0 q1 q2 qf ql
          obtain ⟨w7, hw7⟩ : ∃ x, ((w6.setCell ⟨q, 0, none⟩ (.int .i64 I')).setCell ⟨q, 1, none⟩ (.int .i64 (O' + (B.size : Int)))).setCell ⟨q, 2, none⟩ (.bool false) = x := ⟨_, rfl⟩
          rw [hw7] at HWE
          rw [hw7]
          clear hw7
          have q0 : w7.cell? ⟨q, 0, none⟩ = some (.int .i64 I') := (HWE.out.blk 2 rfl).cell 0
          have q1 : w7.cell? ⟨q, 1, none⟩ = some (.int .i64 (O' + (B.size : Int))) := (HWE.out.blk 2 rfl).cell 1
          have q2 : w7.cell? ⟨q, 2, none⟩ = some (.bool false) := (HWE.out.blk 2 rfl).cell 2
          have ql : q < w7.heap.size := (HWE.out.blk 2 rfl).lt
          have p0 : w7.cell? ⟨gp, 0, none⟩ = some (.int .i64 I') := (HWE.out.blk 1 rfl).cell 0
          have p1 : w7.cell? ⟨gp, 1, none⟩ = some (.int .i64 O') := (HWE.out.blk 1 rfl).cell 1
          have p2 : w7.cell? ⟨gp, 2, none⟩ = some (.bool false) := (HWE.out.blk 1 rfl).cell 2
          have pf := (HWE.out.blk 1 rfl).free
          have pl : gp < w7.heap.size := (HWE.out.blk 1 rfl).lt
          repeat ((fail_if_success (with_reducible refine stop_at 29 ?_)); first | fail | go_values | go_skip | go_guarded | go_step | go_upon | go_back | go_simp)
          have HWF := Lib.hid (((HWE.out.put 1 rfl 0 (.int .i64 I')).put 1 rfl 1 (.int .i64 (O' + (B.size : Int)))).put 1 rfl 2 (.bool false))
          clear HWE q0 q1 q2 ql p0 p1 p2 pf pl
          obtain ⟨w8, hw8⟩ : ∃ x, ((w7.setCell ⟨gp, 0, none⟩ (.int .i64 I')).setCell ⟨gp, 1, none⟩ (.int .i64 (O' + (B.size : Int)))).setCell ⟨gp, 2, none⟩ (.bool false) = x := ⟨_, rfl⟩
          rw [hw8] at HWF
          rw [hw8]
          clear hw8
          have HWG : Hid (Own w [] w8 [strT gs M 0, Thing.block gp 53 #[.int .i64 I', .int .i64 (O' + (B.size : Int)), .bool false]]) := Lib.hid (Own.pick HWF.out [0, 1] (by decide) (fun i t hi => match i, hi with
              | 0, hi => ⟨0, rfl, hi⟩
              | 1, hi => ⟨1, rfl, hi⟩))
          have HPA := Lib.hid (fun W => pkparse B (k : Int) W (by omega))
          clear HWF
          go_wp2_with fail
          refine (HPA.out _ (HK.out.later HWG.out.since) (HC.out.later HWG.out.since)).mono ?_
          rintro e w9 ⟨A9, m9, c9, Ms, rfl, hb9, hf9, hm9, hM9⟩
          have HWH := Lib.hid (HWG.out.later hb9)
          rw [K5.out] at hM9
          rw [K4.out, errV_zero]
          obtain ⟨⟨⟨kk, ns, dd⟩, fA, fc⟩, rfl⟩ : ∃ q, Ms = [q] := by
            have := congrArg List.length hM9
            rw [List.length_map] at this
            exact List.length_eq_one_iff.1 this
          simp only [List.map_cons, List.map_nil, List.cons.injEq, and_true, Frm.mk.injEq] at hM9
          obtain ⟨rfl, rfl, rfl⟩ := hM9
          have hm1 : m9 = 1 := hm9.symm
          subst hm1
          obtain ⟨b9, off9, hA9, hlt9, hcc9⟩ := hf9.rd.frm (i := 0) (by simp)
          subst hA9
          obtain ⟨f0, f1, f2⟩ := hcc9 w9 (Since.refl _) 0 (by simp)
          have hnum := (hf9.each _ (List.mem_singleton.2 rfl)).nums
          obtain ⟨-, Az, cz, hv, -, -, hcz⟩ := hnum
          obtain ⟨bz, offz, hAz, hltz, hcy⟩ := hcz (by simp)
          simp only [FrmV.v, Value.slice.injEq] at hv
          obtain ⟨hv1, -, -⟩ := hv
          have hfA : fA = some ⟨bz, offz, none⟩ := hv1.trans hAz
          subst hfA
          have hz0 : w9.cell? ⟨bz, offz, none⟩ = some (.int .i64 (a : Int)) := hcy 0 (by simp)
          simp only [Nat.zero_mul, Nat.add_zero, List.getElem_cons_zero] at f0 f1 f2
          clear hcc9 hcz hcy hf9 hAz hv1 hm9 hb9 HWG HPA
          obtain ⟨S, ⟨hz, rfl⟩, up⟩ := HWH.out.at_ 0 rfl
          have HSP := Lib.hid (fun W (h : Sz W gs M 0) => sput gs M 0 (a : Int) dd W h (by omega))
          obtain ⟨pu1, pu2⟩ := HP.out.put h60x.out e1 e2
          rw [HX.out] at pu1 pu2
          rw [pu1, errV_zero] at HSP
          obtain ⟨M2, hM2⟩ : ∃ M2, putM M (a : Int) dd.data.toList = M2 := ⟨_, rfl⟩
          rw [hM2] at pu2 HSP
          clear hM2
          have HP2 := Lib.hid pu2
          have HZS := Lib.hid hz
          clear pu1 pu2 hz
          repeat ((fail_if_success (with_reducible refine stop_at 30 ?_)); first | fail | go_values | go_skip | go_guarded | go_step | go_upon | go_back | go_simp)
          go_cut [] (fun wd => Own w [] wd [strT gs M2 0, Thing.block gp 53 #[.int .i64 I', .int .i64 (O' + (B.size : Int)), .bool false]])
          case first =>
            go_upto_region 30 with fail
            have HQ9 := Lib.hid (HWH.out.later (show Since w9 w9.drew from (Since.refl w9).drew))
            obtain ⟨S, ⟨hz, rfl⟩, up⟩ := HQ9.out.at_ 0 rfl
            have HZ9 := Lib.hid hz
            clear hz HQ9
            go_still_tail 28, (by kernel_rfl)
            change wpList _ _ _ _ _ w9.drew
            go_wp2_with (go_at_call 27; refine (HSP.out _ HZ9.out).mono ?_; rintro e w10 ⟨rfl, hz10, ho10⟩)
            go_meet
            case rel => exact up _ (strT gs M2 0) ⟨[gs], ⟨hz10, rfl⟩, ho10, fun k hk => Or.inl hk⟩
          case rest =>
            have HWI := Lib.hid hcut
            clear hcut up HWH f0 f1 f2 hz0
            have p0 : wc.cell? ⟨gp, 0, none⟩ = some (.int .i64 I') := (HWI.out.blk 1 rfl).cell 0
            have p1 : wc.cell? ⟨gp, 1, none⟩ = some (.int .i64 (O' + (B.size : Int))) := (HWI.out.blk 1 rfl).cell 1
            have pl : gp < wc.heap.size := (HWI.out.blk 1 rfl).lt
            have hkn : decide (3 * I' < O' + (B.size : Int)) = false := by have := HOKB.out.kn rfl; simp; omega
            have i1 := HOKB.out.i1
            have i2 := HOKB.out.i2
            have hwr3 : IntKind.i64.wrap (3 * I') = 3 * I' := IntWalk.i64_in _ (by omega)
            go_wp2_with fail
            go_roundw
            case rel => exact ⟨k + 1, _, _, I', _, by go_num, by omega, rfl, HP2.out, HOKB.out, HWI.out⟩
            case measure => simp [intOf]; omega

/-! the row -/
theorem own : ownKnob Tryd.prog.godebug = none := by kernel_rfl
theorem laidOut : laidOutB Tryd.prog = true := by kernel_rfl
set_option maxRecDepth 100000 in
theorem contract (H : Type) (enc : TypeId × Value → H) (W : World) (base : Nat) (args : Array Value) (ds gs : List (DataW H)) (before : List MemPlace)
    (hval : ∀ (j : Nat) t v, Tryd.f6.params[j]? = some t → args[j]? = some v → Value.okWide Tryd.prog W .any base t v)
    (hW : DataW.Whole enc Tryd.prog Tryd.f6.params.toList Rows.topPathsSpec.vars false W args.toList ds gs before) (hsz : (DataW.weightsEach Tryd.prog (Tryd.f6.params.toList ++ (OpenSpec.ofChange Rows.topPathsSpec).bare.plain.varTypes Tryd.prog) (ds ++ gs)).all (· ≤ reachBytes) = true) (hL : laidMetH Tryd.prog Rows.topPathsRow.laid W) :
    Calls Tryd.prog 6 args W fun e W' => ∃ v, e = .returned v ∧ Rows.topPathsSpec.post enc Tryd.prog Tryd.f6 false true false false W args v W' := by
  have hW' := hW
  obtain ⟨p, q, hA0, hV, rfl, hfz, hnd⟩ := hW
  have hA : DataW.TrodAll enc Tryd.prog W 0 (fun _ => true) true Tryd.f6.params.toList args.toList ds p := hA0
  rw [Tryd.params6] at hA hval
  obtain ⟨v0, vs0, d0, ds0, p0, q0, hargs, rfl, rfl, h0, r0⟩ := trodAll_cons hA
  obtain ⟨v1, vs1, d1, ds1, p1, q1, rfl, rfl, rfl, h1, r1⟩ := trodAll_cons r0
  obtain ⟨rfl, rfl, rfl⟩ := trodAll_nil r1
  obtain rfl : args = #[v0, v1] := by cases args; simp_all
  obtain ⟨rfl, rfl⟩ := trodVars_none hV
  obtain ⟨s0, rfl, rfl, rfl, w0⟩ := open_string Tryd.underlying9 (hval 0 9 v0 rfl rfl) h0
  have z0 : s0.size ≤ 140737488351232 := by
    have hq := sized_string hsz (j := 0) rfl rfl
    simpa [reachBytes] using hq
  obtain ⟨a1, len1, cap1, rfl⟩ := okWide_slice Tryd.underlying31 (hval 1 31 v1 rfl rfl)
  have k1 := h1
  have lt1 : ∀ x ∈ p1, x.block < W.heap.size := by obtain ⟨m, hm⟩ := k1; exact DataW.trod_lt m _ _ _ hm
  obtain ⟨z1, w1⟩ : ∃ zs, IntsIn W (.slice a1 len1 cap1) zs := by
    obtain ⟨fuel, hf⟩ := h1
    exact intsIn_open Tryd.underlying31 Tryd.underlying3 (by kernel_rfl) hf lt1
  have lw := laidWalk hL
  refine (walk s0 (.slice a1 len1 cap1) z1 W z0 w1 lw).mono fun e W' ⟨he, bel⟩ => ?_
  subst he
  exact ⟨_, rfl, _, _, _, [], _, [], hW', trodAll_mk1 (shut_bool Tryd.underlying4 _), (trodAll_cons_mk (shut_string Tryd.underlying9 w0) (trodAll_cons_mk (Below.trod laidOut (by kernel_rfl) (of_decide_eq_true (by kernel_rfl)) k1 bel lt1) trodAll_mk0)), rfl, bel.frame _, fun h => by cases h⟩

theorem reads (os : Os) {H : Type} (enc : TypeId × Value → H) : ∃ places, DataW.whole enc Tryd.prog ((laidWorld os).forCall (fun _ _ => 0) ⟨#[], #[.string ByteArray.empty, .slice none 0 0], []⟩).memory Tryd.f6.params.toList Rows.topPathsSpec.vars false (#[.string ByteArray.empty, .slice none 0 0] : Array Value).toList 8 = some ([.lit (.string []), .nil], [], places) :=
  ⟨[], by kernel_rfl⟩
theorem laid_met (os : Os) : laidMetH Tryd.prog Rows.topPathsRow.laid ((laidWorld os).forCall (fun _ _ => 0) ⟨#[], #[.string ByteArray.empty, .slice none 0 0], []⟩).memory := laidMetW os _

set_option maxRecDepth 100000 in
theorem lifted (os : Os) (started : os.Started) (H : Type) (enc : TypeId × Value → H) (F : Stop.Interp) :
    ReturnsInHanded {} Tryd.checked os 6 .any ((OpenSpec.ofChange Rows.topPathsSpec).preRow enc Tryd.prog Tryd.f6 Rows.topPathsRow.domain false Rows.topPathsRow.laid) (((OpenSpec.ofChange Rows.topPathsSpec).at F).post enc Tryd.prog Tryd.f6 false true false false) := by
  obtain ⟨places, hx⟩ := reads os enc
  refine returnsInHanded_of_row (C := Tryd.checked) (s := OpenSpec.ofChange Rows.topPathsSpec) own started (by kernel_rfl) Tryd.func6
    (witness_row_at (enc := enc) (C := Tryd.checked) false (laidWorld os) #[.string ByteArray.empty, .slice none 0 0] rfl (by kernel_rfl) (by kernel_rfl) (by kernel_rfl)
      (OpenSpec.preRow_of_cond 8 hx (by kernel_rfl) (fun k hk => by cases hk) (by kernel_rfl) (laid_met os))) ?_
  intro W base args ds gs before hval hW _ _ hsz hL _ _
  exact contract H enc W base args ds gs before hval hW hsz hL

theorem said : Rows.TopPathsSaid :=
  OpenClaim.holds_of_cond 6 Tryd.f6 rfl rfl rfl rfl rfl rfl rfl ⟨rfl, rfl, rfl, rfl, rfl⟩ rfl rfl rfl rfl rfl (by kernel_rfl) Tryd.func6 (by kernel_rfl)
    (of_decide_eq_true (by kernel_rfl)) (by unfold Func.isWrapper; first | (rw [if_pos (by decide +kernel)]; kernel_rfl) | (rw [if_neg (by decide +kernel)]; exact ⟨rfl, rfl⟩))
    (fun os started H enc _ F => by rw [OpenClaim.pre_eq_preRow]; exact lifted os started H enc F)

theorem plain (f : FuncId) (fn : Func) (hf : Tryd.pinned.checked.prog.funcNamed "wanderwire/wiretop.TopPaths" = some f) (hfn : Tryd.pinned.checked.prog.funcs[f]? = some fn) :
    false = Tryd.pinned.checked.prog.looks [] ∧ ∀ (j : Nat) t, fn.params[j]? = some t → Tryd.pinned.checked.prog.wantsStandIn t = false := by
  obtain rfl : f = 6 := Option.some.inj ((show Tryd.prog.funcNamed "wanderwire/wiretop.TopPaths" = some 6 by kernel_rfl).symm.trans hf) |>.symm
  obtain rfl : fn = Tryd.f6 := (Option.some.inj (Tryd.func6.symm.trans hfn)).symm
  refine ⟨by kernel_rfl, fun j t ht => ?_⟩
  rw [Tryd.params6] at ht
  have ht' := Array.mem_of_getElem? ht
  have hall : (([9, 31] : List Nat).all fun t => !Tryd.prog.wantsStandIn t) = true := by kernel_rfl
  have hq := List.all_eq_true.1 hall t (by simpa using ht')
  have hq2 : Tryd.prog.wantsStandIn t = false := by simpa using hq
  exact hq2

theorem card : Rows.TopPathsCardSaid :=
  Claim7.holds_tied_plain_at .later [] _ _ _ _ said (fun _ h => by cases h) (by kernel_rfl) (fun _ h => by cases h) topPaths_row_tie rfl ⟨rfl, rfl⟩ (by kernel_rfl) rfl plain (by kernel_rfl)
#print axioms card
end Go.Proofs.YtaindcicloapfaaDoor.topPaths
