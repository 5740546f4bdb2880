/- The walk and the row of TalkPlays: for every size, steps and texts the law returns true: what two write, read and send, and what comes, is lost and doubled, is answered as the reference says. Condition: errors.errorType and the tables of kinds and counts hold what the program's text lays (the row lists them, the card ties them). -/
import Derived.Test.YtmfbaijbigodkaaGreatDoorZK
import Derived.Deep.DeepCutAuto
import Derived.Deep.QuietTactic
import Derived.BigQuiet
import Derived.Deep.RegionHeld3
import Derived.StillTailTactics
import Derived.Deep.DeepHandedRow
import Derived.LaidLaws
import Derived.LaidHandle
import Derived.Deep.DeepWitnessRowRef
import Derived.Test.YtmfbaijbigodkaaGreatDoorRows
import Derived.WalkKit
import Derived.ProofKit
import Derived.OpenShut
import Derived.ShutString
import Derived.ChangeOld
import Derived.Below
import Derived.Lib.SmallJoins
import Derived.Deep.Slices
import Derived.Deep.Matrix
import Derived.Deep.Strs
namespace Go.Proofs.YtmfbaijbigodkaaGreatDoor.talkPlays
open Go.ChangeShapes Go.WideShapes Go.ChangeAt Go.RowKit
open Go.ChangeMaps (open_string shut_string)
set_option linter.unusedVariables false

noncomputable abbrev laidWorld := YtmfbaijbigodkaaGreatDoor.laidWorld2
theorem laidMetW (os : Os) (args : Array Value) : laidMetH Tryz.prog Rows.talkPlaysRow.laid ((laidWorld os).forCall (fun _ _ => 0) ⟨#[], args, []⟩).memory := laidMet_ekc os args
theorem laidWalk {W : World} (h : laidMetH Tryz.prog Rows.talkPlaysRow.laid W) : ETok W ∧ KTab W ∧ CTab W := laid_ekc h
theorem write_made (s : EnS) (d : ByteArray) : (s.write d).made = s.made := by unfold EnS.write; split <;> rfl
theorem read_made (s : EnS) (n : Int) : (s.read n).made = s.made := by unfold EnS.read; split <;> rfl
theorem take_made (s : EnS) (b : List UInt8) : (s.take b).made = s.made := by
  unfold EnS.take
  split
  · unfold EnS.pkt
    split
    · rfl
    · split
      · split
        · exact takes_made _ _
        · rfl
      · rfl
  · rfl
theorem make_made (s : EnS) : s.make.made.length = s.made.length + 1 := by unfold EnS.make; simp
/-- each made no more than so many packets -/
def Few (s : TkS) (k : Nat) : Prop := s.e0.made.length ≤ k ∧ s.e1.made.length ≤ k
theorem Few.up {s : TkS} {k j : Nat} (h : Few s k) (hj : k ≤ j) : Few s j := ⟨Nat.le_trans h.1 hj, Nat.le_trans h.2 hj⟩
theorem Few.of {s : TkS} {k : Nat} (h : Few s k) (who : Int) : (s.e who).made.length ≤ k := by
  unfold TkS.e
  split
  · exact h.1
  · exact h.2
theorem Few.set {s : TkS} {k : Nat} (h : Few s k) (who : Int) {x : EnS} (hx : x.made.length ≤ k) : Few (s.set who x) k := by
  unfold TkS.set
  split
  · exact ⟨hx, h.2⟩
  · exact ⟨h.1, hx⟩
theorem Few.write {s : TkS} {k : Nat} (h : Few s k) (who : Int) (d : ByteArray) : Few (s.write who d) (k + 1) := by
  unfold TkS.write
  split
  · exact (h.set who (by rw [write_made]; exact h.of who)).up (Nat.le_succ _)
  · exact h.up (Nat.le_succ _)
theorem Few.read {s : TkS} {k : Nat} (h : Few s k) (who n : Int) : Few (s.read who n) (k + 1) := by
  unfold TkS.read
  split
  · exact (h.set who (by rw [read_made]; exact h.of who)).up (Nat.le_succ _)
  · exact h.up (Nat.le_succ _)
theorem Few.send {s : TkS} {k : Nat} (h : Few s k) (who : Int) : Few (s.send who) (k + 1) := by
  unfold TkS.send
  split
  · have := (h.up (Nat.le_succ k)).set who (x := (s.e who).make) (by rw [make_made]; have := h.of who; omega)
    exact ⟨this.1, this.2⟩
  · exact h.up (Nat.le_succ _)
theorem Few.come {s : TkS} {k : Nat} (h : Few s k) (i : Int) : Few (s.come i) (k + 1) := by
  unfold TkS.come
  split
  · have := (h.set (giveD s.L i).too (x := (s.e (giveD s.L i).too).take (giveD s.L i).b.data.toList) (by rw [take_made]; exact h.of _)).up (Nat.le_succ k)
    exact ⟨this.1, this.2⟩
  · exact h.up (Nat.le_succ _)
theorem Few.way {s : TkS} {k : Nat} (h : Few s k) (L : List Let) : Few { s with L := L } (k + 1) := ⟨Nat.le_trans h.1 (Nat.le_succ _), Nat.le_trans h.2 (Nat.le_succ _)⟩
theorem tabs {w w1 : World} {L : List Thing} {i : Nat} (hK : KTab w) (hC : CTab w) {S : List Nat} (up : ∀ (X : World) (t : Thing), Leaves w1 X S t → Own w [] X (L.set i t)) :
    ∀ X, Out w1 X S → KTab X ∧ CTab X := fun X hX => by
  have o := up X ⟨fun _ S => S = [], fun h k hk => by rw [h] at hk; simp at hk, fun h _ _ => h⟩ ⟨[], rfl, hX, by simp⟩
  exact ⟨hK.later o.since, hC.later o.since⟩
/-- the talk stands first, its reference behind it -/
theorem sendL (w : World) (g : Nat) (s : TkS) (x : Int) (hK : KTab w) (hm : (s.e x).made.length ≤ 1000) (t B : Thing) (W : World) (h : Own w [] W [talkT g s, t, B]) :
    Calls Tryz.prog 27 #[.pointer (some ⟨g, 0, none⟩), .int .i64 x] W fun e w' => e = .returned (errV (s.sendE x)) ∧ Own w [] w' [talkT g (s.send x), t, B] := by
  obtain ⟨S, hS, up⟩ := h.at_ 0 rfl
  exact (tsend g s x W S hS (hK.later h.since) hm).mono fun e w' ⟨h1, h2⟩ => ⟨h1, up _ _ h2⟩
theorem sendR (w : World) (g : Nat) (s : TkS) (x : Int) (hm : (s.e x).made.length ≤ 1000) (t B : Thing) (W : World) (h : Own w [] W [t, rtT g s, B]) :
    Calls Tryz.prog 28 #[.pointer (some ⟨g, 0, none⟩), .int .i64 x] W fun e w' => e = .returned (.int .i64 (s.sendE x)) ∧ Own w [] w' [t, rtT g (s.send x), B] := by
  obtain ⟨S, hS, up⟩ := h.at_ 1 rfl
  exact (rsend g s x W S hS hm).mono fun e w' ⟨h1, h2⟩ => ⟨h1, up _ _ h2⟩
theorem comeL (w : World) (g : Nat) (s : TkS) (x : Int) (hK : KTab w) (hC : CTab w) (hm : Few s 1000) (t B : Thing) (W : World) (h : Own w [] W [talkT g s, t, B]) :
    Calls Tryz.prog 29 #[.pointer (some ⟨g, 0, none⟩), .int .i64 x] W fun e w' => e = .returned (errV (s.comeE x)) ∧ Own w [] w' [talkT g (s.come x), t, B] := by
  obtain ⟨S, hS, up⟩ := h.at_ 0 rfl
  exact (tcome g s x W S hS (tabs hK hC up) hm.1 hm.2).mono fun e w' ⟨h1, h2⟩ => ⟨h1, up _ _ h2⟩
theorem comeR (w : World) (g : Nat) (s : TkS) (x : Int) (hm : Few s 1000) (t B : Thing) (W : World) (h : Own w [] W [t, rtT g s, B]) :
    Calls Tryz.prog 30 #[.pointer (some ⟨g, 0, none⟩), .int .i64 x] W fun e w' => e = .returned (.int .i64 (s.comeE x)) ∧ Own w [] w' [t, rtT g (s.come x), B] := by
  obtain ⟨S, hS, up⟩ := h.at_ 1 rfl
  exact (rcome g s x W S hS hm.1 hm.2).mono fun e w' ⟨h1, h2⟩ => ⟨h1, up _ _ h2⟩
theorem rt_ok {w : World} {S : List Nat} {g : Nat} {s : TkS} (h : (rtT g s).is w S) : TkOk s := by
  obtain ⟨_, _, ok, _⟩ := rtT_open h
  exact ok
theorem twiceLt (w : World) (g : Nat) (s : TkS) (x : Int) (t B : Thing) (W : World) (h : Own w [] W [talkT g s, t, B]) :
    Calls Tryz.prog 33 #[.pointer (some ⟨g, 0, none⟩), .int .i64 x] W fun e w' => e = .returned (errV (twiceE s.L x)) ∧ Own w [] w' [talkT g { s with L := twiceL s.L x }, t, B] := by
  obtain ⟨S, hS, up⟩ := h.at_ 0 rfl
  exact (tktwice g s x W S hS).mono fun e w' ⟨h1, h2⟩ => ⟨h1, up _ _ h2⟩
theorem twiceRt (w : World) (g : Nat) (s : TkS) (x : Int) (hok : TkOk s) (t B : Thing) (W : World) (h : Own w [] W [t, rtT g s, B]) :
    Calls Tryz.prog 34 #[.pointer (some ⟨g, 0, none⟩), .int .i64 x] W fun e w' => e = .returned (.int .i64 (twiceE s.L x)) ∧ Own w [] w' [t, rtT g { s with L := twiceL s.L x }, B] := by
  obtain ⟨S, hS, up⟩ := h.at_ 1 rfl
  exact (rtwice g s x W S hS (twice_ok hok)).mono fun e w' ⟨h1, h2⟩ => ⟨h1, up _ _ h2⟩
theorem rt_cell0 {w : World} {S : List Nat} {g : Nat} {s : TkS} (h : (rtT g s).is w S) : ∃ ge, w.cell? ⟨g, 0, none⟩ = some (.pointer (some ⟨ge, 0, none⟩)) ∧ ∃ S0, (rnT ge s.e0).is w S0 ∧ ∀ (w' : World) (x : EnS), Leaves w w' S0 (rnT ge x) → Leaves w w' S (rtT g { s with e0 := x }) ∧ w'.cell? ⟨g, 0, none⟩ = some (.pointer (some ⟨ge, 0, none⟩)) := by
  obtain ⟨g0, g1, ok, ho⟩ := rtT_open h
  obtain ⟨S1, ⟨v, hz, -⟩, -⟩ := ho.at_ 0 rfl
  obtain ⟨S2, hS2, up2⟩ := ho.at_ 1 rfl
  refine ⟨g0, hz.bl.cell 0, S2, hS2, fun w' x hl => ?_⟩
  have o := up2 _ _ hl
  obtain ⟨S3, ⟨v3, hz3, -⟩, -⟩ := o.at_ 0 rfl
  exact ⟨rtT_close (g0 := g0) (g1 := g1) ok o, hz3.bl.cell 0⟩
theorem readR0 (w : World) (g : Nat) (s : TkS) (x : Int) (ge : Nat) (t B : Thing) (W : World) (h : Own w [] W [t, rtT g s, B]) (hc : W.cell? ⟨g, 0, none⟩ = some (.pointer (some ⟨ge, 0, none⟩))) :
    Calls Tryz.prog 13 #[.pointer (some ⟨ge, 0, none⟩), .int .i64 x] W fun e w' => e = .returned (.tuple #[.string (s.e0.readS x), .int .i64 (EnS.readE x)]) ∧ Own w [] w' [t, rtT g { s with e0 := s.e0.read x }, B] ∧ w'.cell? ⟨g, 0, none⟩ = some (.pointer (some ⟨ge, 0, none⟩)) := by
  obtain ⟨S, hS, up⟩ := h.at_ 1 rfl
  obtain ⟨ge', hc', S0, h0, upe⟩ := rt_cell0 hS
  rw [hc] at hc'
  cases hc'
  exact (nread ge s.e0 x W S0 h0).mono fun e w' ⟨h1, h2⟩ => ⟨h1, up _ _ (upe _ _ h2).1, (upe _ _ h2).2⟩
theorem rt_cell1 {w : World} {S : List Nat} {g : Nat} {s : TkS} (h : (rtT g s).is w S) : ∃ ge, w.cell? ⟨g, 1, none⟩ = some (.pointer (some ⟨ge, 0, none⟩)) ∧ ∃ S0, (rnT ge s.e1).is w S0 ∧ ∀ (w' : World) (x : EnS), Leaves w w' S0 (rnT ge x) → Leaves w w' S (rtT g { s with e1 := x }) ∧ w'.cell? ⟨g, 1, none⟩ = some (.pointer (some ⟨ge, 0, none⟩)) := by
  obtain ⟨g0, g1, ok, ho⟩ := rtT_open h
  obtain ⟨S1, ⟨v, hz, -⟩, -⟩ := ho.at_ 0 rfl
  obtain ⟨S2, hS2, up2⟩ := ho.at_ 2 rfl
  refine ⟨g1, hz.bl.cell 1, S2, hS2, fun w' x hl => ?_⟩
  have o := up2 _ _ hl
  obtain ⟨S3, ⟨v3, hz3, -⟩, -⟩ := o.at_ 0 rfl
  exact ⟨rtT_close (g0 := g0) (g1 := g1) ok o, hz3.bl.cell 1⟩
theorem readR1 (w : World) (g : Nat) (s : TkS) (x : Int) (ge : Nat) (t B : Thing) (W : World) (h : Own w [] W [t, rtT g s, B]) (hc : W.cell? ⟨g, 1, none⟩ = some (.pointer (some ⟨ge, 0, none⟩))) :
    Calls Tryz.prog 13 #[.pointer (some ⟨ge, 0, none⟩), .int .i64 x] W fun e w' => e = .returned (.tuple #[.string (s.e1.readS x), .int .i64 (EnS.readE x)]) ∧ Own w [] w' [t, rtT g { s with e1 := s.e1.read x }, B] ∧ w'.cell? ⟨g, 1, none⟩ = some (.pointer (some ⟨ge, 0, none⟩)) := by
  obtain ⟨S, hS, up⟩ := h.at_ 1 rfl
  obtain ⟨ge', hc', S0, h0, upe⟩ := rt_cell1 hS
  rw [hc] at hc'
  cases hc'
  exact (nread ge s.e1 x W S0 h0).mono fun e w' ⟨h1, h2⟩ => ⟨h1, up _ _ (upe _ _ h2).1, (upe _ _ h2).2⟩
def growRow (u : Nat → Value) : Nat → Nat → List Value
  | _, 0 => []
  | k, n + 1 => u k :: growRow u (k + 1) n
theorem growRow_congr {u v : Nat → Value} : ∀ (n k : Nat), (∀ i, k ≤ i → u i = v i) → growRow u k n = growRow v k n
  | 0, _, _ => rfl
  | n + 1, k, h => by
    rw [growRow, growRow, h k (Nat.le_refl k), growRow_congr n (k + 1) (fun i hi => h i (by omega))]
theorem growRow_any : ∀ (n k : Nat) (U : List Value), U.length = n → ∃ u : Nat → Value, U = growRow u k n
  | 0, k, U, h => ⟨fun _ => .nilIface, by rw [List.length_eq_zero_iff.1 h]; rfl⟩
  | n + 1, k, [], h => by simp at h
  | n + 1, k, x :: r, h => by
    obtain ⟨u, hu⟩ := growRow_any n (k + 1) r (by simpa using h)
    refine ⟨fun i => if i = k then x else u i, ?_⟩
    rw [growRow, if_pos rfl, hu]
    congr 1
    exact growRow_congr n (k + 1) (fun i hi => by rw [if_neg (by omega)])
set_option maxRecDepth 100000 in
theorem growTail {U : List Value} (h : U.length = 185) : ∃ u : Nat → Value, U = [u 24, u 25, u 26, u 27, u 28, u 29, u 30, u 31, u 32, u 33, u 34, u 35, u 36, u 37, u 38, u 39, u 40, u 41, u 42, u 43, u 44, u 45, u 46, u 47, u 48, u 49, u 50, u 51, u 52, u 53, u 54, u 55, u 56, u 57, u 58, u 59, u 60, u 61, u 62, u 63, u 64, u 65, u 66, u 67, u 68, u 69, u 70, u 71, u 72, u 73, u 74, u 75, u 76, u 77, u 78, u 79, u 80, u 81, u 82, u 83, u 84, u 85, u 86, u 87, u 88, u 89, u 90, u 91, u 92, u 93, u 94, u 95, u 96, u 97, u 98, u 99, u 100, u 101, u 102, u 103, u 104, u 105, u 106, u 107, u 108, u 109, u 110, u 111, u 112, u 113, u 114, u 115, u 116, u 117, u 118, u 119, u 120, u 121, u 122, u 123, u 124, u 125, u 126, u 127, u 128, u 129, u 130, u 131, u 132, u 133, u 134, u 135, u 136, u 137, u 138, u 139, u 140, u 141, u 142, u 143, u 144, u 145, u 146, u 147, u 148, u 149, u 150, u 151, u 152, u 153, u 154, u 155, u 156, u 157, u 158, u 159, u 160, u 161, u 162, u 163, u 164, u 165, u 166, u 167, u 168, u 169, u 170, u 171, u 172, u 173, u 174, u 175, u 176, u 177, u 178, u 179, u 180, u 181, u 182, u 183, u 184, u 185, u 186, u 187, u 188, u 189, u 190, u 191, u 192, u 193, u 194, u 195, u 196, u 197, u 198, u 199, u 200, u 201, u 202, u 203, u 204, u 205, u 206, u 207, u 208] := by
  obtain ⟨u, hu⟩ := growRow_any 185 24 U h
  exact ⟨u, hu.trans (by kernel_rfl)⟩
set_option maxRecDepth 100000 in
/-- behind what is wrong with the size -/
def NE (n : Int) (A A2 : Option Addr) (l cap l2 cap2 : Nat) (E : Int) (wv : World) (a : Act) (wx : World) : Prop := wv = wx ∧
  ∃ (t3 t4 t5 t6 t8 t9 t10 t11 t12 t13 t14 t15 t16 t17 t18 t19 t20 t21 t22 t23 : Value) (U : List Value), U.length = 185 ∧ a = ⟨((.int .i64 n) :: (.slice A l cap) :: (.slice A2 l2 cap2) :: t3 :: t4 :: t5 :: t6 :: (.int .i64 E) :: t8 :: t9 :: t10 :: t11 :: t12 :: t13 :: t14 :: t15 :: t16 :: t17 :: t18 :: t19 :: t20 :: t21 :: t22 :: t23 :: U).toArray, []⟩
set_option maxRecDepth 100000 in
/-- a step's head -/
def LI (w : World) (n : Int) (A A2 : Option Addr) (l cap l2 cap2 g gm : Nat) (a : Act) (wx : World) : Prop := ∃ (k : Nat) (s : TkS), (k ≤ 80 ∧ Few s k ∧ Own w [] wx [talkT g s, rtT gm s]) ∧
  ∃ (t3 t4 t5 t6 t7 t9 t10 t13 t14 t15 t16 t17 t18 t19 t20 t21 t22 t23 : Value) (U : List Value), U.length = 185 ∧ a = ⟨((.int .i64 n) :: (.slice A l cap) :: (.slice A2 l2 cap2) :: t3 :: t4 :: t5 :: t6 :: t7 :: (.pointer (some ⟨g, 0, none⟩)) :: t9 :: t10 :: (.pointer (some ⟨gm, 0, none⟩)) :: (.int .i64 k) :: t13 :: t14 :: t15 :: t16 :: t17 :: t18 :: t19 :: t20 :: t21 :: t22 :: t23 :: U).toArray, []⟩
def LM (a : Act) (wx : World) : Nat := 80 - (intOf (a.tmps.toList.getD 12 undef)).toNat
set_option maxRecDepth 100000 in
def RC (w : World) (n : Int) (A A2 : Option Addr) (l cap l2 cap2 g gm : Nat) (k : Nat) (q : Nat) (wo : World) (x : List Int) (a : Act) (wx : World) : Prop := (BlockIs wx q 57 (x.map fun n => .int .i64 n).toArray ∧ Since wo wx) ∧
  ∃ (t3 t4 t5 t6 t7 t9 t10 t14 t15 t16 t17 t18 t19 t20 t21 t22 t23 : Value) (U : List Value), U.length = 185 ∧ a = ⟨((.int .i64 n) :: (.slice A l cap) :: (.slice A2 l2 cap2) :: t3 :: t4 :: t5 :: t6 :: t7 :: (.pointer (some ⟨g, 0, none⟩)) :: t9 :: t10 :: (.pointer (some ⟨gm, 0, none⟩)) :: (.int .i64 k) :: (.pointer (some ⟨q, 0, none⟩)) :: t14 :: t15 :: t16 :: t17 :: t18 :: t19 :: t20 :: t21 :: t22 :: t23 :: U).toArray, []⟩
set_option maxRecDepth 100000 in
def RCL (w : World) (n : Int) (A A2 : Option Addr) (l cap l2 cap2 g gm : Nat) (k : Nat) (q : Nat) (wo : World) (r : List Int) (a : Act) (wx : World) : Prop := ∃ j : Nat, (j ≤ 3 ∧ j ≤ r.length ∧ BlockIs wx q 57 #[.int .i64 (vv r j 0), .int .i64 (vv r j 1), .int .i64 (vv r j 2)] ∧ Since wo wx) ∧
  ∃ (t3 t4 t5 t6 t7 t9 t10 t15 t16 t17 t18 t19 t20 t21 t22 t23 : Value) (U : List Value), U.length = 185 ∧ a = ⟨((.int .i64 n) :: (.slice A l cap) :: (.slice A2 l2 cap2) :: t3 :: t4 :: t5 :: t6 :: t7 :: (.pointer (some ⟨g, 0, none⟩)) :: t9 :: t10 :: (.pointer (some ⟨gm, 0, none⟩)) :: (.int .i64 k) :: (.pointer (some ⟨q, 0, none⟩)) :: (.int .i64 j) :: t15 :: t16 :: t17 :: t18 :: t19 :: t20 :: t21 :: t22 :: t23 :: U).toArray, []⟩
def RCM (a : Act) (wx : World) : Nat := 3 - (intOf (a.tmps.toList.getD 14 undef)).toNat
set_option maxRecDepth 100000 in
/-- behind the text of the step -/
def DC (w : World) (n : Int) (A A2 : Option Addr) (l cap l2 cap2 g gm : Nat) (k gv : Nat) (wv : World) (a : Act) (wx : World) : Prop := ∃ d : ByteArray, (wv = wx ∧ d.size ≤ 9223372036854775000) ∧
  ∃ (t3 t4 t5 t6 t7 t9 t10 t14 t16 t17 t18 t19 t20 t21 t22 t23 : Value) (U : List Value), U.length = 185 ∧ a = ⟨((.int .i64 n) :: (.slice A l cap) :: (.slice A2 l2 cap2) :: t3 :: t4 :: t5 :: t6 :: t7 :: (.pointer (some ⟨g, 0, none⟩)) :: t9 :: t10 :: (.pointer (some ⟨gm, 0, none⟩)) :: (.int .i64 k) :: (.pointer (some ⟨gv, 0, none⟩)) :: t14 :: (.string d) :: t16 :: t17 :: t18 :: t19 :: t20 :: t21 :: t22 :: t23 :: U).toArray, []⟩
set_option maxRecDepth 100000 in
/-- behind the question who -/
def WC (w : World) (n : Int) (A A2 : Option Addr) (l cap l2 cap2 g gm : Nat) (k gv : Nat) (d : ByteArray) (x1 : Int) (wv : World) (a : Act) (wx : World) : Prop := wv = wx ∧
  ∃ (t3 t4 t5 t6 t7 t9 t10 t14 t17 t18 t19 t20 t21 t22 t23 : Value) (U : List Value), U.length = 185 ∧ a = ⟨((.int .i64 n) :: (.slice A l cap) :: (.slice A2 l2 cap2) :: t3 :: t4 :: t5 :: t6 :: t7 :: (.pointer (some ⟨g, 0, none⟩)) :: t9 :: t10 :: (.pointer (some ⟨gm, 0, none⟩)) :: (.int .i64 k) :: (.pointer (some ⟨gv, 0, none⟩)) :: t14 :: (.string d) :: (.bool (whoB x1)) :: t17 :: t18 :: t19 :: t20 :: t21 :: t22 :: t23 :: U).toArray, []⟩
set_option maxRecDepth 100000 in
/-- behind the switch -/
def SC (w : World) (n : Int) (A A2 : Option Addr) (l cap l2 cap2 g gm : Nat) (k : Nat) (a : Act) (wx : World) : Prop := ∃ s : TkS, (Few s (k + 1) ∧ Own w [] wx [talkT g s, rtT gm s]) ∧
  ∃ (t3 t4 t5 t6 t7 t9 t13 t14 t15 t16 t17 t18 t19 t20 t21 t22 t23 : Value) (U : List Value), U.length = 185 ∧ a = ⟨((.int .i64 n) :: (.slice A l cap) :: (.slice A2 l2 cap2) :: t3 :: t4 :: t5 :: t6 :: t7 :: (.pointer (some ⟨g, 0, none⟩)) :: t9 :: (.bool true) :: (.pointer (some ⟨gm, 0, none⟩)) :: (.int .i64 k) :: t13 :: t14 :: t15 :: t16 :: t17 :: t18 :: t19 :: t20 :: t21 :: t22 :: t23 :: U).toArray, []⟩
set_option maxRecDepth 100000 in
set_option maxHeartbeats 40000000 in
theorem walk (n : Int) (v1 : Value) (Z : List (List Int)) (v2 : Value) (T : List ByteArray) (w : World) (w0 : (Lit.int .i64 n).wf = true) (w1 : IntRowsIn w v1 Z) (w2 : StrsInS w v2 T) (hL : ETok w ∧ KTab w ∧ CTab w) :
    Calls Tryz.prog 4 #[.int .i64 n, v1, v2] w fun e w' => e = .returned (.bool true) ∧ Below w.heap.size w w' := by
  have HE := Lib.hid hL.1
  have HK := Lib.hid hL.2.1
  have HCT := Lib.hid hL.2.2
  obtain ⟨A, cap, rfl, hle0, hm1, hc⟩ := w1
  obtain ⟨⟨-, A2, cap2, rfl, hle2, hm2, hc2⟩, hS⟩ := w2
  unfold maxLen at hm1 hm2
  have hZ : Z.length ≤ 9223372036854775807 := by omega
  have hT0 : T.length ≤ 9223372036854775807 := by omega
  have HC := Lib.hid hc
  have HC2 := Lib.hid hc2
  have HS := Lib.hid hS
  clear hc hc2 hS hL w0
  go_enter Tryz.func4, Tryz.ntmps4
  by_cases hn : 1 ≤ n ∧ n ≤ 1000
  case neg =>
    repeat ((fail_if_success (with_reducible refine stop_at 2 ?_)); first | fail | go_values | go_skip | go_guarded | go_step | go_upon | go_back | go_simp)
    refine wp_cut (NE n A A2 Z.length cap T.length cap2 1 w) ?_ ?_
    rotate_left
    next =>
      as_aux_lemma =>
        intro _ _ _ _
        by_cases h1 : n < 1
        · clear hn
          go_wp2_with fail
          refine Met.intro ?_
          go_step
          exact ⟨rfl, _, _, _, _, _, _, _, _, _, _, _, _, _, _, _, _, _, _, _, _, _, (by kernel_rfl), rfl⟩
        · have h1' : decide (n < 1) = false := by simpa using h1
          have h2 : 1000 < n := by omega
          clear hn h1
          go_wp2_with fail
          refine Met.intro ?_
          go_step
          exact ⟨rfl, _, _, _, _, _, _, _, _, _, _, _, _, _, _, _, _, _, _, _, _, _, (by kernel_rfl), rfl⟩
    intro a' wv hinv
    obtain ⟨rfl, t3, t4, t5, t6, t8, t9, t10, t11, t12, t13, t14, t15, t16, t17, t18, t19, t20, t21, t22, t23, U, hU, rfl⟩ := hinv
    obtain ⟨u, rfl⟩ := growTail hU; clear hU
    go_wp2_with fail
    refine (tnew_no n hn _).mono ?_
    rintro e w6 ⟨rfl, hb6⟩
    have hs6 : Since w w6 := hb6
    go_wp2_with fail
    refine (same_yes 1 _ (HE.out.later hs6)).mono ?_
    rintro e w7 ⟨rfl, hb7⟩
    have hs7 : Since w w7 := hs6.later hb7
    go_wp2_with fail
    go_ret
    exact ⟨rfl, hs7⟩
  repeat ((fail_if_success (with_reducible refine stop_at 2 ?_)); first | fail | go_values | go_skip | go_guarded | go_step | go_upon | go_back | go_simp)
  refine wp_cut (NE n A A2 Z.length cap T.length cap2 0 w) ?_ ?_
  rotate_left
  next =>
    as_aux_lemma =>
      intro _ _ _ _
      have h1' : decide (n < 1) = false := by simp; omega
      have h2' : decide (1000 < n) = false := by simp; omega
      have h3 : ¬ (n < 1 ∨ 1000 < n) := by omega
      go_wp2_with fail
      refine Met.intro ?_
      go_step
      exact ⟨rfl, _, _, _, _, _, _, _, _, _, _, _, _, _, _, _, _, _, _, _, _, _, (by kernel_rfl), rfl⟩
  intro a' wv hinv
  obtain ⟨rfl, t3, t4, t5, t6, t8, t9, t10, t11, t12, t13, t14, t15, t16, t17, t18, t19, t20, t21, t22, t23, U, hU, rfl⟩ := hinv
  obtain ⟨u, rfl⟩ := growTail hU; clear hU
  go_wp2_with fail
  refine (tnew n hn.1 hn.2 _).mono ?_
  rintro e w6 ⟨g, rfl, hl⟩
  have HW6 : Hid (Own w [] w6 [talkT g (TkS.new n)]) := Lib.hid ((Own.start w).made hl)
  clear hl
  go_wp2_with fail
  refine (same_nil 0 _).mono ?_
  rintro e w7 ⟨rfl, rfl⟩
  go_wp2_with fail
  refine (rtnew n hn.1 hn.2 _).mono ?_
  rintro e w7 ⟨gm, rfl, hl⟩
  have HW7 : Hid (Own w [] w7 [talkT g (TkS.new n), rtT gm (TkS.new n)]) := Lib.hid (HW6.out.made hl)
  clear hl HW6
  go_wp2_with fail
  refine wp_loop (LI w n A A2 Z.length cap T.length cap2 g gm) LM ?_ ?_
  next => exact ⟨0, TkS.new n, ⟨by omega, ⟨Nat.le_refl _, Nat.le_refl _⟩, HW7.out⟩, _, _, _, _, _, _, _, _, _, _, _, _, _, _, _, _, _, _, _, (by kernel_rfl), rfl⟩
  next =>
    intro a' wr hinv
    obtain ⟨k, s, ⟨hk, hfew, hw⟩, t3, t4, t5, t6, t7, t9, t10, t13, t14, t15, t16, t17, t18, t19, t20, t21, t22, t23, U, hU, rfl⟩ := hinv
    obtain ⟨u, rfl⟩ := growTail hU; clear hU
    have HW := Lib.hid hw
    have HF := Lib.hid hfew
    clear hw HW7 hn hfew
    by_cases hlen : k < Z.length
    case neg =>
      have hlen' : decide ((k : Int) < (Z.length : Int)) = false := by simp; omega
      go_wp2_with fail
      go_ret
      exact ⟨rfl, HW.out.since⟩
    by_cases h80 : k < 80
    case neg =>
      have hlen' : (k : Int) < (Z.length : Int) := by omega
      have h80' : decide ((k : Int) < 80) = false := by simp; omega
      go_wp2_with fail
      go_ret
      exact ⟨rfl, HW.out.since⟩
    have hlen' : (k : Int) < (Z.length : Int) := by omega
    have h80' : (k : Int) < 80 := by omega
    obtain ⟨b, off, rfl, hlt, hcc⟩ := HC.out (by rintro rfl; simp at hlen)
    obtain ⟨x, hx, hI⟩ := hcc k hlen
    clear hcc
    generalize Z.getD k [] = r at *
    obtain ⟨bdr, A', cap', rfl, hle', hm', hcr⟩ := hI
    have HX := Lib.hid hx
    have HR := Lib.hid hcr
    have HBD := Lib.hid (ith_bounds bdr)
    unfold maxLen at hm'
    clear hx hcr bdr
    have hs : Since w wr := HW.out.since
    obtain ⟨wo, rfl⟩ : ∃ wo : World, wo = wr := ⟨_, rfl⟩
    repeat ((fail_if_success (with_reducible refine stop_at 13 ?_)); first | fail | go_values | go_skip | go_guarded | go_step | go_upon | go_back | go_simp)
    refine wp_cut (RC w n (some ⟨b, off, none⟩) A2 Z.length cap T.length cap2 g gm k wo.heap.size wo [ith r 0, ith r 1, ith r 2]) ?_ ?_
    rotate_left
    next =>
      as_aux_lemma =>
        intro _ _ _ _
        go_wp2_with fail
        refine wp_loop (RCL w n (some ⟨b, off, none⟩) A2 Z.length cap T.length cap2 g gm k wo.heap.size wo r) RCM ?_ ?_
        next => exact ⟨0, ⟨by omega, by omega, BlockIs.fresh _ _ _, (by refine Since.out ?_; repeat (first | with_reducible assumption | with_reducible exact Since.refl _ | with_reducible refine Since.later ?_ (by with_reducible assumption) | with_reducible refine Since.only ?_ (by with_reducible assumption) (by first | assumption | omega | (simp; done) | (simp; omega)) | with_reducible refine Since.alloc ?_ _ | with_reducible refine Since.drewN ?_ _ | with_reducible refine Since.drew ?_ | with_reducible refine Since.set ?_ (by first | assumption | omega | (simp; done) | (simp; omega)) _))⟩, _, _, _, _, _, _, _, _, _, _, _, _, _, _, _, _, _, (by kernel_rfl), rfl⟩
        next =>
          intro a' wr hinv
          obtain ⟨j, ⟨hj2, hjr, hB, hs2⟩, t3, t4, t5, t6, t7, t9, t10, t15, t16, t17, t18, t19, t20, t21, t22, t23, U, hU, rfl⟩ := hinv
          obtain ⟨u, rfl⟩ := growTail hU; clear hU
          have cx : wr.cell? ⟨b, off + k, none⟩ = some (.slice A' r.length cap') := hs2.cell (Nat.lt_of_lt_of_le hlt hs.le) (hs.cell hlt HX.out)
          by_cases hjl : j < r.length
          case neg =>
            have hjl' : decide ((j : Int) < (r.length : Int)) = false := by simp; omega
            have HB := Lib.hid (vv_end3 (Or.inl (by omega : r.length ≤ j)) ▸ hB)
            clear hB
            go_wp2_with fail
            refine Met.intro ?_
            go_step
            exact ⟨⟨HB.out, hs2⟩, _, _, _, _, _, _, _, _, _, _, _, _, _, _, _, _, _, _, (by kernel_rfl), rfl⟩
          by_cases hj2' : j < 3
          case neg =>
            have hj3 : decide ((j : Int) < 3) = false := by simp; omega
            have hjl' : (j : Int) < (r.length : Int) := by omega
            have HB := Lib.hid (vv_end3 (r := r) (Or.inr (by omega : 3 ≤ j)) ▸ hB)
            clear hB
            go_wp2_with fail
            refine Met.intro ?_
            go_step
            exact ⟨⟨HB.out, hs2⟩, _, _, _, _, _, _, _, _, _, _, _, _, _, _, _, _, _, _, (by kernel_rfl), rfl⟩
          have hjl' : (j : Int) < (r.length : Int) := by omega
          have hj3 : (j : Int) < 3 := by omega
          obtain ⟨b2, off2, rfl, hlt2, hc2⟩ := HR.out (by rintro rfl; simp at hjl)
          obtain ⟨y, hy⟩ : ∃ y, ith r j = y := ⟨_, rfl⟩
          have cj : wr.cell? ⟨b2, off2 + j, none⟩ = some (.int .i64 y) := hy ▸ hs2.cell (Nat.lt_of_lt_of_le hlt2 hs.le) (hs.cell hlt2 (hc2 j hjl))
          have fj := hB.free
          have ij : wr.cell? ⟨wo.heap.size, j, none⟩ = some (.int .i64 0) := (hB.cell j).trans (vv_next3 r hj2').1
          have HB := Lib.hid (hy ▸ (vv_next3 r hj2').2 ▸ hB.put j (.int .i64 (ith r j)))
          clear hc2 hB hy
          go_wp2_with fail
          refine ⟨⟨j + 1, ⟨by omega, by omega, HB.out, (by refine Since.out ?_; repeat (first | with_reducible assumption | with_reducible exact Since.refl _ | with_reducible refine Since.later ?_ (by with_reducible assumption) | with_reducible refine Since.only ?_ (by with_reducible assumption) (by first | assumption | omega | (simp; done) | (simp; omega)) | with_reducible refine Since.alloc ?_ _ | with_reducible refine Since.drewN ?_ _ | with_reducible refine Since.drew ?_ | with_reducible refine Since.set ?_ (by first | assumption | omega | (simp; done) | (simp; omega)) _))⟩, _, _, _, _, _, _, _, _, _, _, _, _, _, _, _, _, _, (by kernel_rfl), rfl⟩, ?_⟩
          simp [RCM, intOf]
          omega
    intro a' wv hinv
    obtain ⟨⟨hBv, hs2⟩, t3, t4, t5, t6, t7, t9, t10, t14, t15, t16, t17, t18, t19, t20, t21, t22, t23, U, hU, rfl⟩ := hinv
    obtain ⟨u, rfl⟩ := growTail hU; clear hU
    simp only [List.map_cons, List.map_nil] at hBv
    have HWB : Hid (Own w [] wv [talkT g s, rtT gm s, Thing.block wo.heap.size 57 #[.int .i64 (ith r 0), .int .i64 (ith r 1), .int .i64 (ith r 2)]]) := Lib.hid (HW.out.add hs2 (S := [wo.heap.size]) ⟨hBv, rfl⟩ (by simp))
    have bx1 := HBD.out 1
    have bx2 := HBD.out 2
    generalize ith r 0 = x0 at *
    generalize ith r 1 = x1 at *
    generalize ith r 2 = x2 at *
    clear hBv hs hs2 HX HR HBD HW
    generalize wo.heap.size = gv at *
    repeat ((fail_if_success (with_reducible refine stop_at 18 ?_)); first | fail | go_values | go_skip | go_guarded | go_step | go_upon | go_back | go_simp)
    refine wp_cut (DC w n (some ⟨b, off, none⟩) A2 Z.length cap T.length cap2 g gm k gv wv) ?_ ?_
    rotate_left
    next =>
      as_aux_lemma =>
        intro _ _ _ _
        by_cases hkT : k < T.length
        · have hkT' : (k : Int) < (T.length : Int) := by omega
          obtain ⟨b2, off2, rfl, hlt2, hcc2⟩ := HC2.out (by rintro rfl; simp at hkT)
          have ct : wv.cell? ⟨b2, off2 + k, none⟩ = some (.string (sth T k)) := HWB.out.since.cell hlt2 (hcc2 k hkT)
          have hsz := HS.out k
          clear hcc2
          generalize sth T k = d at *
          go_wp2_with fail
          refine Met.intro ?_
          go_step
          exact ⟨d, ⟨rfl, by omega⟩, _, _, _, _, _, _, _, _, _, _, _, _, _, _, _, _, _, (by kernel_rfl), rfl⟩
        · have hkT' : decide ((k : Int) < (T.length : Int)) = false := by rw [decide_eq_false_iff_not]; omega
          go_wp2_with fail
          refine Met.intro ?_
          go_step
          exact ⟨⟨#[]⟩, ⟨rfl, by show 0 ≤ _; omega⟩, _, _, _, _, _, _, _, _, _, _, _, _, _, _, _, _, _, (by kernel_rfl), rfl⟩
    intro a' wv' hinv
    obtain ⟨d, ⟨rfl, hsz⟩, t3, t4, t5, t6, t7, t9, t10, t14, t16, t17, t18, t19, t20, t21, t22, t23, U, hU, rfl⟩ := hinv
    obtain ⟨u, rfl⟩ := growTail hU; clear hU
    have cv0 : wv.cell? ⟨gv, 0, none⟩ = some (.int .i64 x0) := (HWB.out.blk 2 rfl).cell 0
    have cv1 : wv.cell? ⟨gv, 1, none⟩ = some (.int .i64 x1) := (HWB.out.blk 2 rfl).cell 1
    have cv2 : wv.cell? ⟨gv, 2, none⟩ = some (.int .i64 x2) := (HWB.out.blk 2 rfl).cell 2
    have lv : gv < wv.heap.size := (HWB.out.blk 2 rfl).lt
    go_upto_region 20 with (fail)
    refine wp_cut (WC w n (some ⟨b, off, none⟩) A2 Z.length cap T.length cap2 g gm k gv d x1 wv) ?_ ?_
    rotate_left
    next =>
      as_aux_lemma =>
        intro _ _ _ _
        by_cases h0 : x1 = 0
        · have h0' : (x1 == 0) = true := by simpa using h0
          have hwb := Lib.hid (whoB_iff.2 (Or.inl h0))
          clear h0
          go_wp2_with fail
          refine Met.intro ?_
          go_step
          unfold WC
          rw [hwb.out]
          exact ⟨rfl, _, _, _, _, _, _, _, _, _, _, _, _, _, _, _, _, (by kernel_rfl), rfl⟩
        · have h0' : (x1 == 0) = false := by simpa using h0
          by_cases h1 : x1 = 1
          · have h1' : (x1 == 1) = true := by simpa using h1
            have hwb := Lib.hid (whoB_iff.2 (Or.inr h1))
            clear h0 h1
            go_wp2_with fail
            refine Met.intro ?_
            go_step
            unfold WC
            rw [hwb.out]
            exact ⟨rfl, _, _, _, _, _, _, _, _, _, _, _, _, _, _, _, _, (by kernel_rfl), rfl⟩
          · have h1' : (x1 == 1) = false := by simpa using h1
            have hwb : Hid (whoB x1 = false) := Lib.hid (by
              cases hw : whoB x1 with
              | false => rfl
              | true => rcases whoB_iff.1 hw with h | h <;> contradiction)
            clear h0 h1
            go_wp2_with fail
            refine Met.intro ?_
            go_step
            unfold WC
            rw [hwb.out]
            exact ⟨rfl, _, _, _, _, _, _, _, _, _, _, _, _, _, _, _, _, (by kernel_rfl), rfl⟩
    intro a' wv' hinv
    obtain ⟨rfl, t3, t4, t5, t6, t7, t9, t10, t14, t17, t18, t19, t20, t21, t22, t23, U, hU, rfl⟩ := hinv
    obtain ⟨u, rfl⟩ := growTail hU; clear hU
    repeat ((fail_if_success (with_reducible refine stop_at 21 ?_)); first | fail | go_values | go_skip | go_guarded | go_step | go_upon | go_back | go_simp)
    refine wp_cut (SC w n (some ⟨b, off, none⟩) A2 Z.length cap T.length cap2 g gm k) ?_ ?_
    rotate_left
    next =>
      intro _ _ _ _
      by_cases h0 : x0 = 0
      case pos =>
        subst h0
        have HBZ := Lib.hid (HF.out.write x1 d)
        cases hwb : whoB x1 with
        | false =>
          as_aux_lemma =>
            have HN : Hid (s.writeE x1 d = 1 ∧ s.write x1 d = s) := Lib.hid ⟨by unfold TkS.writeE; rw [hwb]; rfl, by unfold TkS.write; rw [hwb]; rfl⟩
            obtain ⟨S, hS, up⟩ := HWB.out.at_ 0 rfl
            have HTW := Lib.hid (twrite g s x1 d _ S hS hsz)
            rw [HN.out.1, HN.out.2] at HTW
            rw [HN.out.2] at HBZ
            clear hwb
            go_wp2_with fail
            refine HTW.out.mono ?_
            rintro e w7 ⟨rfl, hl⟩
            have HW7 : Hid (Own w [] w7 [talkT g s, rtT gm s, Thing.block gv 57 #[.int .i64 0, .int .i64 x1, .int .i64 x2]]) := Lib.hid (up _ _ hl)
            clear hl hS up HTW HWB cv0 cv1 cv2 lv
            go_wp2_with fail
            refine (same_yes 1 _ (HE.out.later HW7.out.since)).mono ?_
            rintro e w9 ⟨rfl, hb9⟩
            have HW9 := Lib.hid (HW7.out.later hb9)
            clear hb9
            go_wp2_with fail
            refine Met.intro ?_
            go_step
            exact ⟨s, ⟨HBZ.out, HW9.out.take 2⟩, _, _, _, _, _, _, _, _, _, _, _, _, _, _, _, _, _, _, (by kernel_rfl), rfl⟩
        | true =>
          rcases whoB_iff.1 hwb with rfl | rfl
          ·
            as_aux_lemma =>
              obtain ⟨Sr, hSr, upr⟩ := HWB.out.drew.at_ 1 rfl
              obtain ⟨ge, c0d, lgd, S0, h0, upe⟩ := rt_end0 hSr
              have c0 : wv.cell? ⟨gm, 0, none⟩ = some (.pointer (some ⟨ge, 0, none⟩)) := c0d
              have lg : gm < wv.heap.size := lgd
              have HNW := Lib.hid (nwrite ge s.e0 d _ S0 h0 hsz)
              have HUP : Hid (∀ w' x, Leaves wv.drew w' S0 (rnT ge x) → Own w [] w' [talkT g s, rtT gm { s with e0 := x }, Thing.block gv 57 #[.int .i64 0, .int .i64 0, .int .i64 x2]]) := Lib.hid (fun w' x hl => upr _ _ (upe _ _ hl))
              have HN : Hid (s.writeE 0 d = s.e0.writeE d ∧ s.write 0 d = { s with e0 := s.e0.write d }) := Lib.hid ⟨rfl, rfl⟩
              rw [HN.out.2] at HBZ
              clear hSr upr c0d lgd h0 upe hwb
              go_wp2_with fail
              go_still_tail 8, (by kernel_rfl)
              change wpList _ _ _ _ _ wv.drew
              go_wp2_with fail
              refine HNW.out.mono ?_
              rintro e w7 ⟨rfl, hl⟩
              have HW7 := Lib.hid (HUP.out _ _ hl)
              clear hl HNW HUP c0 lg cv0 cv1 cv2 lv
              have e1 : w7.cell? ⟨gv, 1, none⟩ = some (.int .i64 0) := (HW7.out.blk 2 rfl).cell 1
              have lv7 : gv < w7.heap.size := (HW7.out.blk 2 rfl).lt
              obtain ⟨S, hS, up⟩ := HW7.out.at_ 0 rfl
              have HTW := Lib.hid (twrite g s 0 d _ S hS hsz)
              rw [HN.out.1, HN.out.2] at HTW
              generalize s.e0.writeE d = E at *
              go_wp2_with fail
              refine HTW.out.mono ?_
              rintro e w8 ⟨rfl, hl⟩
              have HW8 : Hid (Own w [] w8 [talkT g { s with e0 := s.e0.write d }, rtT gm { s with e0 := s.e0.write d }, Thing.block gv 57 #[.int .i64 0, .int .i64 0, .int .i64 x2]]) := Lib.hid (up _ _ hl)
              clear hl hS up HTW HWB HW7 e1 lv7
              go_wp2_with fail
              refine (same_yes E _ (HE.out.later HW8.out.since)).mono ?_
              rintro e w9 ⟨rfl, hb9⟩
              have HW9 := Lib.hid (HW8.out.later hb9)
              clear hb9
              go_wp2_with fail
              refine Met.intro ?_
              go_step
              exact ⟨_, ⟨HBZ.out, HW9.out.take 2⟩, _, _, _, _, _, _, _, _, _, _, _, _, _, _, _, _, _, _, (by kernel_rfl), rfl⟩
          ·
            as_aux_lemma =>
              obtain ⟨Sr, hSr, upr⟩ := HWB.out.drew.at_ 1 rfl
              obtain ⟨ge, c0d, lgd, S0, h0, upe⟩ := rt_end1 hSr
              have c0 : wv.cell? ⟨gm, 1, none⟩ = some (.pointer (some ⟨ge, 0, none⟩)) := c0d
              have lg : gm < wv.heap.size := lgd
              have HNW := Lib.hid (nwrite ge s.e1 d _ S0 h0 hsz)
              have HUP : Hid (∀ w' x, Leaves wv.drew w' S0 (rnT ge x) → Own w [] w' [talkT g s, rtT gm { s with e1 := x }, Thing.block gv 57 #[.int .i64 0, .int .i64 1, .int .i64 x2]]) := Lib.hid (fun w' x hl => upr _ _ (upe _ _ hl))
              have HN : Hid (s.writeE 1 d = s.e1.writeE d ∧ s.write 1 d = { s with e1 := s.e1.write d }) := Lib.hid ⟨rfl, rfl⟩
              rw [HN.out.2] at HBZ
              clear hSr upr c0d lgd h0 upe hwb
              go_wp2_with fail
              go_still_tail 8, (by kernel_rfl)
              change wpList _ _ _ _ _ wv.drew
              go_wp2_with fail
              refine HNW.out.mono ?_
              rintro e w7 ⟨rfl, hl⟩
              have HW7 := Lib.hid (HUP.out _ _ hl)
              clear hl HNW HUP c0 lg cv0 cv1 cv2 lv
              have e1 : w7.cell? ⟨gv, 1, none⟩ = some (.int .i64 1) := (HW7.out.blk 2 rfl).cell 1
              have lv7 : gv < w7.heap.size := (HW7.out.blk 2 rfl).lt
              obtain ⟨S, hS, up⟩ := HW7.out.at_ 0 rfl
              have HTW := Lib.hid (twrite g s 1 d _ S hS hsz)
              rw [HN.out.1, HN.out.2] at HTW
              generalize s.e1.writeE d = E at *
              go_wp2_with fail
              refine HTW.out.mono ?_
              rintro e w8 ⟨rfl, hl⟩
              have HW8 : Hid (Own w [] w8 [talkT g { s with e1 := s.e1.write d }, rtT gm { s with e1 := s.e1.write d }, Thing.block gv 57 #[.int .i64 0, .int .i64 1, .int .i64 x2]]) := Lib.hid (up _ _ hl)
              clear hl hS up HTW HWB HW7 e1 lv7
              go_wp2_with fail
              refine (same_yes E _ (HE.out.later HW8.out.since)).mono ?_
              rintro e w9 ⟨rfl, hb9⟩
              have HW9 := Lib.hid (HW8.out.later hb9)
              clear hb9
              go_wp2_with fail
              refine Met.intro ?_
              go_step
              exact ⟨_, ⟨HBZ.out, HW9.out.take 2⟩, _, _, _, _, _, _, _, _, _, _, _, _, _, _, _, _, _, _, (by kernel_rfl), rfl⟩
      by_cases h1 : x0 = 1
      case pos =>
        subst h1
        have HBZ := Lib.hid (HF.out.read x1 x2)
        cases hwb : whoB x1 with
        | false =>
          as_aux_lemma =>
            have HN : Hid (TkS.readE x1 x2 = 1 ∧ s.readS x1 x2 = ⟨#[]⟩ ∧ s.read x1 x2 = s) := Lib.hid ⟨by unfold TkS.readE; rw [hwb]; rfl, by unfold TkS.readS; rw [hwb]; rfl, by unfold TkS.read; rw [hwb]; rfl⟩
            obtain ⟨S, hS, up⟩ := HWB.out.at_ 0 rfl
            have HTW := Lib.hid (tread g s x1 x2 _ S hS)
            rw [HN.out.1, HN.out.2.1, HN.out.2.2] at HTW
            rw [HN.out.2.2] at HBZ
            clear hwb
            go_wp2_with fail
            refine HTW.out.mono ?_
            rintro e w7 ⟨rfl, hl⟩
            have HW7 : Hid (Own w [] w7 [talkT g s, rtT gm s, Thing.block gv 57 #[.int .i64 1, .int .i64 x1, .int .i64 x2]]) := Lib.hid (up _ _ hl)
            clear hl hS up HTW HWB cv0 cv1 cv2 lv
            go_wp2_with fail
            refine (same_yes 1 _ (HE.out.later HW7.out.since)).mono ?_
            rintro e w9 ⟨rfl, hb9⟩
            have HW9 := Lib.hid (HW7.out.later hb9)
            clear hb9
            go_wp2_with fail
            refine Met.intro ?_
            go_step
            exact ⟨s, ⟨HBZ.out, HW9.out.take 2⟩, _, _, _, _, _, _, _, _, _, _, _, _, _, _, _, _, _, _, (by kernel_rfl), rfl⟩
        | true =>
          rcases whoB_iff.1 hwb with rfl | rfl
          ·
            as_aux_lemma =>
              obtain ⟨Sr, hSr, -⟩ := HWB.out.at_ 1 rfl
              obtain ⟨ge, c0, -, -⟩ := rt_cell0 hSr
              have lg : gm < wv.heap.size := World.block_lt_of_cell? wv _ c0
              have HRR := Lib.hid (fun W h hc => readR0 w gm s x2 ge (talkT g s) (Thing.block gv 57 #[.int .i64 1, .int .i64 0, .int .i64 x2]) W h hc)
              have C1 := Lib.hid (⟨cv1, cv2, c0⟩ : wv.cell? ⟨gv, 1, none⟩ = some (.int .i64 0) ∧ wv.cell? ⟨gv, 2, none⟩ = some (.int .i64 x2) ∧ wv.cell? ⟨gm, 0, none⟩ = some (.pointer (some ⟨ge, 0, none⟩)))
              have HN : Hid (TkS.readE 0 x2 = EnS.readE x2 ∧ s.readS 0 x2 = s.e0.readS x2 ∧ s.read 0 x2 = { s with e0 := s.e0.read x2 }) := Lib.hid ⟨rfl, rfl, rfl⟩
              rw [HN.out.2.2] at HBZ
              clear hSr hwb
              go_wp2_with fail
              go_region_held3 (fun w' => w'.cell? ⟨gv, 1, none⟩ = some (.int .i64 0) ∧ w'.cell? ⟨gv, 2, none⟩ = some (.int .i64 x2) ∧ w'.cell? ⟨gm, 0, none⟩ = some (.pointer (some ⟨ge, 0, none⟩))) (first | exact C1.out | exact cq1.out) ((go_at_call 13; refine (HRR.out _ ?_ ?_).mono ?_; (first | exact HWB.out | exact HWB.out.drew); (exact C1.out.2.2); rintro e w7 ⟨rfl, ha, hca⟩; have HW7 := Lib.hid ha; have cq1 : Hid (w7.cell? ⟨gv, 1, none⟩ = some (.int .i64 0) ∧ w7.cell? ⟨gv, 2, none⟩ = some (.int .i64 x2) ∧ w7.cell? ⟨gm, 0, none⟩ = some (.pointer (some ⟨ge, 0, none⟩))) := Lib.hid ⟨(ha.blk 2 rfl).cell 1, (ha.blk 2 rfl).cell 2, hca⟩; clear ha hca))
              all_goals
                clear HRR C1 c0 lg cv0 cv1 cv2 lv
                have e1 : w7.cell? ⟨gv, 1, none⟩ = some (.int .i64 0) := cq1.out.1
                have e2 : w7.cell? ⟨gv, 2, none⟩ = some (.int .i64 x2) := cq1.out.2.1
                have lv7 : gv < w7.heap.size := (HW7.out.blk 2 rfl).lt
                obtain ⟨S, hS, up⟩ := HW7.out.at_ 0 rfl
                have HTW := Lib.hid (tread g s 0 x2 _ S hS)
                rw [HN.out.1, HN.out.2.1, HN.out.2.2] at HTW
                generalize EnS.readE x2 = E at *
                generalize s.e0.readS x2 = X at *
                go_wp2_with fail
                refine HTW.out.mono ?_
                rintro e w8 ⟨rfl, hl⟩
                have HW8 : Hid (Own w [] w8 [talkT g { s with e0 := s.e0.read x2 }, rtT gm { s with e0 := s.e0.read x2 }, Thing.block gv 57 #[.int .i64 1, .int .i64 0, .int .i64 x2]]) := Lib.hid (up _ _ hl)
                clear hl hS up HTW HWB HW7 e1 e2 lv7 cq1
                go_wp2_with fail
                refine (same_yes E _ (HE.out.later HW8.out.since)).mono ?_
                rintro e w9 ⟨rfl, hb9⟩
                have HW9 := Lib.hid (HW8.out.later hb9)
                clear hb9
                go_wp2_with fail
                refine Met.intro ?_
                go_step
                exact ⟨{ s with e0 := s.e0.read x2 }, ⟨HBZ.out, HW9.out.take 2⟩, _, _, _, _, _, _, _, _, _, _, _, _, _, _, _, _, _, _, (by kernel_rfl), rfl⟩
          ·
            as_aux_lemma =>
              obtain ⟨Sr, hSr, -⟩ := HWB.out.at_ 1 rfl
              obtain ⟨ge, c0, -, -⟩ := rt_cell1 hSr
              have lg : gm < wv.heap.size := World.block_lt_of_cell? wv _ c0
              have HRR := Lib.hid (fun W h hc => readR1 w gm s x2 ge (talkT g s) (Thing.block gv 57 #[.int .i64 1, .int .i64 1, .int .i64 x2]) W h hc)
              have C1 := Lib.hid (⟨cv1, cv2, c0⟩ : wv.cell? ⟨gv, 1, none⟩ = some (.int .i64 1) ∧ wv.cell? ⟨gv, 2, none⟩ = some (.int .i64 x2) ∧ wv.cell? ⟨gm, 1, none⟩ = some (.pointer (some ⟨ge, 0, none⟩)))
              have HN : Hid (TkS.readE 1 x2 = EnS.readE x2 ∧ s.readS 1 x2 = s.e1.readS x2 ∧ s.read 1 x2 = { s with e1 := s.e1.read x2 }) := Lib.hid ⟨rfl, rfl, rfl⟩
              rw [HN.out.2.2] at HBZ
              clear hSr hwb
              go_wp2_with fail
              go_region_held3 (fun w' => w'.cell? ⟨gv, 1, none⟩ = some (.int .i64 1) ∧ w'.cell? ⟨gv, 2, none⟩ = some (.int .i64 x2) ∧ w'.cell? ⟨gm, 1, none⟩ = some (.pointer (some ⟨ge, 0, none⟩))) (first | exact C1.out | exact cq1.out) ((go_at_call 13; refine (HRR.out _ ?_ ?_).mono ?_; (first | exact HWB.out | exact HWB.out.drew); (exact C1.out.2.2); rintro e w7 ⟨rfl, ha, hca⟩; have HW7 := Lib.hid ha; have cq1 : Hid (w7.cell? ⟨gv, 1, none⟩ = some (.int .i64 1) ∧ w7.cell? ⟨gv, 2, none⟩ = some (.int .i64 x2) ∧ w7.cell? ⟨gm, 1, none⟩ = some (.pointer (some ⟨ge, 0, none⟩))) := Lib.hid ⟨(ha.blk 2 rfl).cell 1, (ha.blk 2 rfl).cell 2, hca⟩; clear ha hca))
              all_goals
                clear HRR C1 c0 lg cv0 cv1 cv2 lv
                have e1 : w7.cell? ⟨gv, 1, none⟩ = some (.int .i64 1) := cq1.out.1
                have e2 : w7.cell? ⟨gv, 2, none⟩ = some (.int .i64 x2) := cq1.out.2.1
                have lv7 : gv < w7.heap.size := (HW7.out.blk 2 rfl).lt
                obtain ⟨S, hS, up⟩ := HW7.out.at_ 0 rfl
                have HTW := Lib.hid (tread g s 1 x2 _ S hS)
                rw [HN.out.1, HN.out.2.1, HN.out.2.2] at HTW
                generalize EnS.readE x2 = E at *
                generalize s.e1.readS x2 = X at *
                go_wp2_with fail
                refine HTW.out.mono ?_
                rintro e w8 ⟨rfl, hl⟩
                have HW8 : Hid (Own w [] w8 [talkT g { s with e1 := s.e1.read x2 }, rtT gm { s with e1 := s.e1.read x2 }, Thing.block gv 57 #[.int .i64 1, .int .i64 1, .int .i64 x2]]) := Lib.hid (up _ _ hl)
                clear hl hS up HTW HWB HW7 e1 e2 lv7 cq1
                go_wp2_with fail
                refine (same_yes E _ (HE.out.later HW8.out.since)).mono ?_
                rintro e w9 ⟨rfl, hb9⟩
                have HW9 := Lib.hid (HW8.out.later hb9)
                clear hb9
                go_wp2_with fail
                refine Met.intro ?_
                go_step
                exact ⟨{ s with e1 := s.e1.read x2 }, ⟨HBZ.out, HW9.out.take 2⟩, _, _, _, _, _, _, _, _, _, _, _, _, _, _, _, _, _, _, (by kernel_rfl), rfl⟩
      by_cases h2 : x0 = 2
      case pos =>
        subst h2
        as_aux_lemma =>
          have HBZ := Lib.hid (HF.out.send x1)
          have HTL := Lib.hid (fun t W h => sendL w g s x1 HK.out (Nat.le_trans (HF.out.of x1) (by omega)) t (Thing.block gv 57 #[.int .i64 2, .int .i64 x1, .int .i64 x2]) W h)
          have HTR := Lib.hid (fun t W h => sendR w gm s x1 (Nat.le_trans (HF.out.of x1) (by omega)) t (Thing.block gv 57 #[.int .i64 2, .int .i64 x1, .int .i64 x2]) W h)
          generalize s.sendE x1 = E at *
          generalize s.send x1 = s2 at *
          have c1 := Lib.hid cv1
          go_wp2_with fail
          go_region_held3 (fun w' => w'.cell? ⟨gv, 1, none⟩ = some (.int .i64 x1)) (first | exact c1.out | exact cq1.out | exact cq2.out | exact cq3.out) (first
            | (go_at_call 27; first
              | (refine (HTL.out (rtT gm s) _ ?_).mono ?_; (first | exact HWB.out | exact HWB.out.drew); rintro e wa ⟨rfl, ha⟩; have HT1 := Lib.hid ha; have cq1 : Hid (wa.cell? ⟨gv, 1, none⟩ = some (.int .i64 x1)) := Lib.hid ((ha.blk 2 rfl).cell 1); clear ha)
              | (refine (HTL.out (rtT gm s2) _ ?_).mono ?_; (first | exact HT2.out | exact HT2.out.drew); rintro e wa ⟨rfl, ha⟩; have HT1 := Lib.hid ha; have cq1 : Hid (wa.cell? ⟨gv, 1, none⟩ = some (.int .i64 x1)) := Lib.hid ((ha.blk 2 rfl).cell 1); clear ha))
            | (go_at_call 28; first
              | (refine (HTR.out (talkT g s) _ ?_).mono ?_; (first | exact HWB.out | exact HWB.out.drew); rintro e wb ⟨rfl, hb⟩; have HT2 := Lib.hid hb; have cq2 : Hid (wb.cell? ⟨gv, 1, none⟩ = some (.int .i64 x1)) := Lib.hid ((hb.blk 2 rfl).cell 1); clear hb)
              | (refine (HTR.out (talkT g s2) _ ?_).mono ?_; (first | exact HT1.out | exact HT1.out.drew); rintro e wb ⟨rfl, hb⟩; have HT2 := Lib.hid hb; have cq2 : Hid (wb.cell? ⟨gv, 1, none⟩ = some (.int .i64 x1)) := Lib.hid ((hb.blk 2 rfl).cell 1); clear hb))
            | (go_at_call 9; refine (same_yes E _ (HE.out.later ?_)).mono ?_; (first | exact HT1.out.since | exact HT1.out.drew.since | exact HT2.out.since | exact HT2.out.drew.since); rintro e wd ⟨rfl, hb9⟩; have HW9 : Hid (Own w [] wd [talkT g s2, rtT gm s2, Thing.block gv 57 #[.int .i64 2, .int .i64 x1, .int .i64 x2]]) := Lib.hid (by first | exact HT1.out.later hb9 | exact HT1.out.drew.later hb9 | exact HT2.out.later hb9 | exact HT2.out.drew.later hb9); have cq3 : Hid (wd.cell? ⟨gv, 1, none⟩ = some (.int .i64 x1)) := Lib.hid ((HW9.out.blk 2 rfl).cell 1); clear hb9))
          all_goals
            go_wp2_with fail
            refine Met.intro ?_
            go_step
            exact ⟨s2, ⟨HBZ.out, HW9.out.take 2⟩, _, _, _, _, _, _, _, _, _, _, _, _, _, _, _, _, _, _, (by kernel_rfl), rfl⟩
      by_cases h3 : x0 = 3
      case pos =>
        subst h3
        as_aux_lemma =>
          have HBZ := Lib.hid (HF.out.send x1)
          have HTL := Lib.hid (fun t W h => sendL w g s x1 HK.out (Nat.le_trans (HF.out.of x1) (by omega)) t (Thing.block gv 57 #[.int .i64 3, .int .i64 x1, .int .i64 x2]) W h)
          have HTR := Lib.hid (fun t W h => sendR w gm s x1 (Nat.le_trans (HF.out.of x1) (by omega)) t (Thing.block gv 57 #[.int .i64 3, .int .i64 x1, .int .i64 x2]) W h)
          generalize s.sendE x1 = E at *
          generalize s.send x1 = s2 at *
          have c1 := Lib.hid cv1
          go_wp2_with fail
          go_region_held3 (fun w' => w'.cell? ⟨gv, 1, none⟩ = some (.int .i64 x1)) (first | exact c1.out | exact cq1.out | exact cq2.out | exact cq3.out) (first
            | (go_at_call 27; first
              | (refine (HTL.out (rtT gm s) _ ?_).mono ?_; (first | exact HWB.out | exact HWB.out.drew); rintro e wa ⟨rfl, ha⟩; have HT1 := Lib.hid ha; have cq1 : Hid (wa.cell? ⟨gv, 1, none⟩ = some (.int .i64 x1)) := Lib.hid ((ha.blk 2 rfl).cell 1); clear ha)
              | (refine (HTL.out (rtT gm s2) _ ?_).mono ?_; (first | exact HT2.out | exact HT2.out.drew); rintro e wa ⟨rfl, ha⟩; have HT1 := Lib.hid ha; have cq1 : Hid (wa.cell? ⟨gv, 1, none⟩ = some (.int .i64 x1)) := Lib.hid ((ha.blk 2 rfl).cell 1); clear ha))
            | (go_at_call 28; first
              | (refine (HTR.out (talkT g s) _ ?_).mono ?_; (first | exact HWB.out | exact HWB.out.drew); rintro e wb ⟨rfl, hb⟩; have HT2 := Lib.hid hb; have cq2 : Hid (wb.cell? ⟨gv, 1, none⟩ = some (.int .i64 x1)) := Lib.hid ((hb.blk 2 rfl).cell 1); clear hb)
              | (refine (HTR.out (talkT g s2) _ ?_).mono ?_; (first | exact HT1.out | exact HT1.out.drew); rintro e wb ⟨rfl, hb⟩; have HT2 := Lib.hid hb; have cq2 : Hid (wb.cell? ⟨gv, 1, none⟩ = some (.int .i64 x1)) := Lib.hid ((hb.blk 2 rfl).cell 1); clear hb))
            | (go_at_call 9; refine (same_yes E _ (HE.out.later ?_)).mono ?_; (first | exact HT1.out.since | exact HT1.out.drew.since | exact HT2.out.since | exact HT2.out.drew.since); rintro e wd ⟨rfl, hb9⟩; have HW9 : Hid (Own w [] wd [talkT g s2, rtT gm s2, Thing.block gv 57 #[.int .i64 3, .int .i64 x1, .int .i64 x2]]) := Lib.hid (by first | exact HT1.out.later hb9 | exact HT1.out.drew.later hb9 | exact HT2.out.later hb9 | exact HT2.out.drew.later hb9); have cq3 : Hid (wd.cell? ⟨gv, 1, none⟩ = some (.int .i64 x1)) := Lib.hid ((HW9.out.blk 2 rfl).cell 1); clear hb9))
          all_goals
            go_wp2_with fail
            refine Met.intro ?_
            go_step
            exact ⟨s2, ⟨HBZ.out, HW9.out.take 2⟩, _, _, _, _, _, _, _, _, _, _, _, _, _, _, _, _, _, _, (by kernel_rfl), rfl⟩
      by_cases h4 : x0 = 4
      case pos =>
        subst h4
        as_aux_lemma =>
          have HBZ := Lib.hid (HF.out.come x1)
          have HTL := Lib.hid (fun t W h => comeL w g s x1 HK.out HCT.out (HF.out.up (by omega)) t (Thing.block gv 57 #[.int .i64 4, .int .i64 x1, .int .i64 x2]) W h)
          have HTR := Lib.hid (fun t W h => comeR w gm s x1 (HF.out.up (by omega)) t (Thing.block gv 57 #[.int .i64 4, .int .i64 x1, .int .i64 x2]) W h)
          generalize s.comeE x1 = E at *
          generalize s.come x1 = s2 at *
          have c1 := Lib.hid cv1
          go_wp2_with fail
          go_region_held3 (fun w' => w'.cell? ⟨gv, 1, none⟩ = some (.int .i64 x1)) (first | exact c1.out | exact cq1.out | exact cq2.out | exact cq3.out) (first
            | (go_at_call 29; first
              | (refine (HTL.out (rtT gm s) _ ?_).mono ?_; (first | exact HWB.out | exact HWB.out.drew); rintro e wa ⟨rfl, ha⟩; have HT1 := Lib.hid ha; have cq1 : Hid (wa.cell? ⟨gv, 1, none⟩ = some (.int .i64 x1)) := Lib.hid ((ha.blk 2 rfl).cell 1); clear ha)
              | (refine (HTL.out (rtT gm s2) _ ?_).mono ?_; (first | exact HT2.out | exact HT2.out.drew); rintro e wa ⟨rfl, ha⟩; have HT1 := Lib.hid ha; have cq1 : Hid (wa.cell? ⟨gv, 1, none⟩ = some (.int .i64 x1)) := Lib.hid ((ha.blk 2 rfl).cell 1); clear ha))
            | (go_at_call 30; first
              | (refine (HTR.out (talkT g s) _ ?_).mono ?_; (first | exact HWB.out | exact HWB.out.drew); rintro e wb ⟨rfl, hb⟩; have HT2 := Lib.hid hb; have cq2 : Hid (wb.cell? ⟨gv, 1, none⟩ = some (.int .i64 x1)) := Lib.hid ((hb.blk 2 rfl).cell 1); clear hb)
              | (refine (HTR.out (talkT g s2) _ ?_).mono ?_; (first | exact HT1.out | exact HT1.out.drew); rintro e wb ⟨rfl, hb⟩; have HT2 := Lib.hid hb; have cq2 : Hid (wb.cell? ⟨gv, 1, none⟩ = some (.int .i64 x1)) := Lib.hid ((hb.blk 2 rfl).cell 1); clear hb))
            | (go_at_call 9; refine (same_yes E _ (HE.out.later ?_)).mono ?_; (first | exact HT1.out.since | exact HT1.out.drew.since | exact HT2.out.since | exact HT2.out.drew.since); rintro e wd ⟨rfl, hb9⟩; have HW9 : Hid (Own w [] wd [talkT g s2, rtT gm s2, Thing.block gv 57 #[.int .i64 4, .int .i64 x1, .int .i64 x2]]) := Lib.hid (by first | exact HT1.out.later hb9 | exact HT1.out.drew.later hb9 | exact HT2.out.later hb9 | exact HT2.out.drew.later hb9); have cq3 : Hid (wd.cell? ⟨gv, 1, none⟩ = some (.int .i64 x1)) := Lib.hid ((HW9.out.blk 2 rfl).cell 1); clear hb9))
          all_goals
            go_wp2_with fail
            refine Met.intro ?_
            go_step
            exact ⟨s2, ⟨HBZ.out, HW9.out.take 2⟩, _, _, _, _, _, _, _, _, _, _, _, _, _, _, _, _, _, _, (by kernel_rfl), rfl⟩
      by_cases h5 : x0 = 5
      case pos =>
        subst h5
        as_aux_lemma =>
          have HBZ := Lib.hid (HF.out.come x1)
          have HTL := Lib.hid (fun t W h => comeL w g s x1 HK.out HCT.out (HF.out.up (by omega)) t (Thing.block gv 57 #[.int .i64 5, .int .i64 x1, .int .i64 x2]) W h)
          have HTR := Lib.hid (fun t W h => comeR w gm s x1 (HF.out.up (by omega)) t (Thing.block gv 57 #[.int .i64 5, .int .i64 x1, .int .i64 x2]) W h)
          generalize s.comeE x1 = E at *
          generalize s.come x1 = s2 at *
          have c1 := Lib.hid cv1
          go_wp2_with fail
          go_region_held3 (fun w' => w'.cell? ⟨gv, 1, none⟩ = some (.int .i64 x1)) (first | exact c1.out | exact cq1.out | exact cq2.out | exact cq3.out) (first
            | (go_at_call 29; first
              | (refine (HTL.out (rtT gm s) _ ?_).mono ?_; (first | exact HWB.out | exact HWB.out.drew); rintro e wa ⟨rfl, ha⟩; have HT1 := Lib.hid ha; have cq1 : Hid (wa.cell? ⟨gv, 1, none⟩ = some (.int .i64 x1)) := Lib.hid ((ha.blk 2 rfl).cell 1); clear ha)
              | (refine (HTL.out (rtT gm s2) _ ?_).mono ?_; (first | exact HT2.out | exact HT2.out.drew); rintro e wa ⟨rfl, ha⟩; have HT1 := Lib.hid ha; have cq1 : Hid (wa.cell? ⟨gv, 1, none⟩ = some (.int .i64 x1)) := Lib.hid ((ha.blk 2 rfl).cell 1); clear ha))
            | (go_at_call 30; first
              | (refine (HTR.out (talkT g s) _ ?_).mono ?_; (first | exact HWB.out | exact HWB.out.drew); rintro e wb ⟨rfl, hb⟩; have HT2 := Lib.hid hb; have cq2 : Hid (wb.cell? ⟨gv, 1, none⟩ = some (.int .i64 x1)) := Lib.hid ((hb.blk 2 rfl).cell 1); clear hb)
              | (refine (HTR.out (talkT g s2) _ ?_).mono ?_; (first | exact HT1.out | exact HT1.out.drew); rintro e wb ⟨rfl, hb⟩; have HT2 := Lib.hid hb; have cq2 : Hid (wb.cell? ⟨gv, 1, none⟩ = some (.int .i64 x1)) := Lib.hid ((hb.blk 2 rfl).cell 1); clear hb))
            | (go_at_call 9; refine (same_yes E _ (HE.out.later ?_)).mono ?_; (first | exact HT1.out.since | exact HT1.out.drew.since | exact HT2.out.since | exact HT2.out.drew.since); rintro e wd ⟨rfl, hb9⟩; have HW9 : Hid (Own w [] wd [talkT g s2, rtT gm s2, Thing.block gv 57 #[.int .i64 5, .int .i64 x1, .int .i64 x2]]) := Lib.hid (by first | exact HT1.out.later hb9 | exact HT1.out.drew.later hb9 | exact HT2.out.later hb9 | exact HT2.out.drew.later hb9); have cq3 : Hid (wd.cell? ⟨gv, 1, none⟩ = some (.int .i64 x1)) := Lib.hid ((HW9.out.blk 2 rfl).cell 1); clear hb9))
          all_goals
            go_wp2_with fail
            refine Met.intro ?_
            go_step
            exact ⟨s2, ⟨HBZ.out, HW9.out.take 2⟩, _, _, _, _, _, _, _, _, _, _, _, _, _, _, _, _, _, _, (by kernel_rfl), rfl⟩
      by_cases h6 : x0 = 6
      case pos =>
        subst h6
        as_aux_lemma =>
          have HBZ := Lib.hid (HF.out.way (giveL s.L x1))
          obtain ⟨S, hS, up⟩ := HWB.out.at_ 1 rfl
          have HRO := Lib.hid (rlose gm s x1 _ S hS)
          unfold letV at HRO
          generalize (giveD s.L x1).too = dt at *
          generalize (giveD s.L x1).b = db at *
          go_wp2_with fail
          refine HRO.out.mono ?_
          rintro e w7 ⟨rfl, hl⟩
          have HW7 : Hid (Own w [] w7 [talkT g s, rtT gm { s with L := giveL s.L x1 }, Thing.block gv 57 #[.int .i64 6, .int .i64 x1, .int .i64 x2]]) := Lib.hid (up _ _ hl)
          have HW8 := Lib.hid (HW7.out.later ((Since.refl w7).alloc (.cells #[.int .i64 dt, .string db] 67)))
          clear hl hS up HRO HWB cv0 cv1 cv2 lv
          have e1 : (w7.alloc (.cells #[.int .i64 dt, .string db] 67)).cell? ⟨gv, 1, none⟩ = some (.int .i64 x1) := (HW8.out.blk 2 rfl).cell 1
          have e10 : w7.cell? ⟨gv, 1, none⟩ = some (.int .i64 x1) := (HW7.out.blk 2 rfl).cell 1
          have lv7 : gv < w7.heap.size := (HW7.out.blk 2 rfl).lt
          obtain ⟨S, hS, up⟩ := HW8.out.at_ 0 rfl
          have HTL := Lib.hid (tklose g s x1 _ S hS)
          go_wp2_with fail
          refine HTL.out.mono ?_
          rintro e w8 ⟨rfl, hl⟩
          have HW9 : Hid (Own w [] w8 [talkT g { s with L := giveL s.L x1 }, rtT gm { s with L := giveL s.L x1 }, Thing.block gv 57 #[.int .i64 6, .int .i64 x1, .int .i64 x2]]) := Lib.hid (up _ _ hl)
          clear hl hS up HTL HW8 HW7 e1 e10 lv7
          generalize giveE s.L x1 = E at *
          go_wp2_with fail
          refine (same_yes E _ (HE.out.later HW9.out.since)).mono ?_
          rintro e w9 ⟨rfl, hb9⟩
          have HWX := Lib.hid (HW9.out.later hb9)
          clear hb9
          go_wp2_with fail
          refine Met.intro ?_
          go_step
          exact ⟨{ s with L := giveL s.L x1 }, ⟨HBZ.out, HWX.out.take 2⟩, _, _, _, _, _, _, _, _, _, _, _, _, _, _, _, _, _, _, (by kernel_rfl), rfl⟩
      have h0' : (x0 == 0) = false := by simpa using h0
      have h1' : (x0 == 1) = false := by simpa using h1
      have h2' : (x0 == 2) = false := by simpa using h2
      have h3' : (x0 == 3) = false := by simpa using h3
      have h4' : (x0 == 4) = false := by simpa using h4
      have h5' : (x0 == 5) = false := by simpa using h5
      have h6' : (x0 == 6) = false := by simpa using h6
      clear h0 h1 h2 h3 h4 h5 h6
      as_aux_lemma =>
        have HBZ := Lib.hid (HF.out.way (twiceL s.L x1))
        have HOK : Hid (TkOk s) := Lib.hid (by obtain ⟨S, hS, _⟩ := HWB.out.at_ 1 rfl; exact rt_ok hS)
        have HTL := Lib.hid (fun t W h => twiceLt w g s x1 t (Thing.block gv 57 #[.int .i64 x0, .int .i64 x1, .int .i64 x2]) W h)
        have HTR := Lib.hid (fun t W h => twiceRt w gm s x1 HOK.out t (Thing.block gv 57 #[.int .i64 x0, .int .i64 x1, .int .i64 x2]) W h)
        generalize twiceE s.L x1 = E at *
        generalize ({ s with L := twiceL s.L x1 } : TkS) = s2 at *
        have c1 := Lib.hid cv1
        go_wp2_with fail
        go_region_held3 (fun w' => w'.cell? ⟨gv, 1, none⟩ = some (.int .i64 x1)) (first | exact c1.out | exact cq1.out | exact cq2.out | exact cq3.out) (first
          | (go_at_call 33; first
            | (refine (HTL.out (rtT gm s) _ ?_).mono ?_; (first | exact HWB.out | exact HWB.out.drew); rintro e wa ⟨rfl, ha⟩; have HT1 := Lib.hid ha; have cq1 : Hid (wa.cell? ⟨gv, 1, none⟩ = some (.int .i64 x1)) := Lib.hid ((ha.blk 2 rfl).cell 1); clear ha)
            | (refine (HTL.out (rtT gm s2) _ ?_).mono ?_; (first | exact HT2.out | exact HT2.out.drew); rintro e wa ⟨rfl, ha⟩; have HT1 := Lib.hid ha; have cq1 : Hid (wa.cell? ⟨gv, 1, none⟩ = some (.int .i64 x1)) := Lib.hid ((ha.blk 2 rfl).cell 1); clear ha))
          | (go_at_call 34; first
            | (refine (HTR.out (talkT g s) _ ?_).mono ?_; (first | exact HWB.out | exact HWB.out.drew); rintro e wb ⟨rfl, hb⟩; have HT2 := Lib.hid hb; have cq2 : Hid (wb.cell? ⟨gv, 1, none⟩ = some (.int .i64 x1)) := Lib.hid ((hb.blk 2 rfl).cell 1); clear hb)
            | (refine (HTR.out (talkT g s2) _ ?_).mono ?_; (first | exact HT1.out | exact HT1.out.drew); rintro e wb ⟨rfl, hb⟩; have HT2 := Lib.hid hb; have cq2 : Hid (wb.cell? ⟨gv, 1, none⟩ = some (.int .i64 x1)) := Lib.hid ((hb.blk 2 rfl).cell 1); clear hb))
          | (go_at_call 9; refine (same_yes E _ (HE.out.later ?_)).mono ?_; (first | exact HT1.out.since | exact HT1.out.drew.since | exact HT2.out.since | exact HT2.out.drew.since); rintro e wd ⟨rfl, hb9⟩; have HW9 : Hid (Own w [] wd [talkT g s2, rtT gm s2, Thing.block gv 57 #[.int .i64 x0, .int .i64 x1, .int .i64 x2]]) := Lib.hid (by first | exact HT1.out.later hb9 | exact HT1.out.drew.later hb9 | exact HT2.out.later hb9 | exact HT2.out.drew.later hb9); have cq3 : Hid (wd.cell? ⟨gv, 1, none⟩ = some (.int .i64 x1)) := Lib.hid ((HW9.out.blk 2 rfl).cell 1); clear hb9))
        all_goals
          go_wp2_with fail
          refine Met.intro ?_
          go_step
          exact ⟨s2, ⟨HBZ.out, HW9.out.take 2⟩, _, _, _, _, _, _, _, _, _, _, _, _, _, _, _, _, _, _, (by kernel_rfl), rfl⟩
    intro a' wc hinv
    obtain ⟨s2, ⟨hf2, hw2⟩, t3, t4, t5, t6, t7, t9, t13, t14, t15, t16, t17, t18, t19, t20, t21, t22, t23, U, hU, rfl⟩ := hinv
    obtain ⟨u, rfl⟩ := growTail hU; clear hU
    have HF2 := Lib.hid hf2
    have HW2 := Lib.hid hw2
    clear hf2 hw2 HWB HF cv0 cv1 cv2 lv
    obtain ⟨S, hS, -⟩ := HW2.out.at_ 0 rfl
    have HTC := Lib.hid (fun W (hW : Since wc W) => by
      obtain ⟨S, hS, _⟩ := (HW2.out.later hW).at_ 0 rfl
      exact tcount g s2 W S hS)
    obtain ⟨SR, hSR, -⟩ := HW2.out.at_ 1 rfl
    obtain ⟨g0, g1, _, ho⟩ := rtT_open hSR
    obtain ⟨S1, ⟨v, hz, -⟩, -⟩ := ho.at_ 0 rfl
    obtain ⟨Av, capv, hve, _, _, _⟩ := hz.ls.shape
    rw [List.length_map] at hve
    have c2 : wc.cell? ⟨gm, 2, none⟩ = some (.slice Av s2.L.length capv) := by rw [← hve]; exact hz.bl.cell 2
    have lg := hz.bl.lt
    clear hS hSR ho hz hve
    obtain ⟨nl, hnl⟩ : ∃ x, s2.L.length = x := ⟨_, rfl⟩
    rw [hnl] at HTC c2
    have hrr : ((nl : Int) != (nl : Int)) = false := by simp
    clear hnl
    go_upto_region 44 with fail
    go_quiet ((go_at_call 35; exact quiet_a (HTC.out _ ((Since.refl wc).drewN _))))
    go_wp2_with fail
    refine ⟨⟨k + 1, s2, ⟨by omega, HF2.out, HW2.out.drewN _⟩, _, _, _, _, _, _, _, _, _, _, _, _, _, _, _, _, _, _, _, (by kernel_rfl), rfl⟩, ?_⟩
    simp [LM, intOf]
    omega

/-! the row -/
theorem own : ownKnob Tryz.prog.godebug = none := by kernel_rfl
theorem laidOut : laidOutB Tryz.prog = true := by kernel_rfl
set_option maxRecDepth 100000 in
theorem contract (H : Type) (enc : TypeId × Value → H) (W : World) (base : Nat) (args : Array Value) (ds gs : List (DataW H)) (before : List MemPlace)
    (hval : ∀ (j : Nat) t v, Tryz.f4.params[j]? = some t → args[j]? = some v → Value.okWide Tryz.prog W .any base t v)
    (hW : DataW.Whole enc Tryz.prog Tryz.f4.params.toList Rows.talkPlaysSpec.vars false W args.toList ds gs before) (hsz : (DataW.weightsEach Tryz.prog (Tryz.f4.params.toList ++ (OpenSpec.ofChange Rows.talkPlaysSpec).bare.plain.varTypes Tryz.prog) (ds ++ gs)).all (· ≤ reachBytes) = true) (hL : laidMetH Tryz.prog Rows.talkPlaysRow.laid W) :
    Calls Tryz.prog 4 args W fun e W' => ∃ v, e = .returned v ∧ Rows.talkPlaysSpec.post enc Tryz.prog Tryz.f4 false true false false W args v W' := by
  have hW' := hW
  obtain ⟨p, q, hA0, hV, rfl, hfz, hnd⟩ := hW
  have hA : DataW.TrodAll enc Tryz.prog W 0 (fun _ => true) true Tryz.f4.params.toList args.toList ds p := hA0
  rw [Tryz.params4] at hA hval
  obtain ⟨v0, vs0, d0, ds0, p0, q0, hargs, rfl, rfl, h0, r0⟩ := trodAll_cons hA
  obtain ⟨v1, vs1, d1, ds1, p1, q1, rfl, rfl, rfl, h1, r1⟩ := trodAll_cons r0
  obtain ⟨v2, vs2, d2, ds2, p2, q2, rfl, rfl, rfl, h2, r2⟩ := trodAll_cons r1
  obtain ⟨rfl, rfl, rfl⟩ := trodAll_nil r2
  obtain rfl : args = #[v0, v1, v2] := by cases args; simp_all
  obtain ⟨rfl, rfl⟩ := trodVars_none hV
  obtain ⟨a0, rfl, rfl, rfl, w0⟩ := open_int Tryz.underlying3 (hval 0 3 v0 rfl rfl) h0
  obtain ⟨a1, len1, cap1, rfl⟩ := okWide_slice Tryz.underlying23 (hval 1 23 v1 rfl rfl)
  have k1 := h1
  have lt1 : ∀ x ∈ p1, x.block < W.heap.size := by obtain ⟨m, hm⟩ := k1; exact DataW.trod_lt m _ _ _ hm
  obtain ⟨z1, w1⟩ : ∃ zs, IntRowsIn W (.slice a1 len1 cap1) zs := by
    obtain ⟨fuel, hf⟩ := h1
    exact intRowsIn_open Tryz.underlying23 Tryz.underlying22 Tryz.underlying3 (by kernel_rfl) (by kernel_rfl) hf lt1
  obtain ⟨a2, len2, cap2, rfl⟩ := okWide_slice Tryz.underlying24 (hval 2 24 v2 rfl rfl)
  have k2 := h2
  have lt2 : ∀ x ∈ p2, x.block < W.heap.size := by obtain ⟨m, hm⟩ := k2; exact DataW.trod_lt m _ _ _ hm
  obtain ⟨z2, w2⟩ : ∃ zs, StrsInS W (.slice a2 len2 cap2) zs := by
    obtain ⟨fuel, hf⟩ := h2
    exact strsIn_open_sized Tryz.underlying24 Tryz.underlying9 (by kernel_rfl) hf lt2 (fun n hn => of_decide_eq_true (List.all_eq_true.1 hsz n (DataW.weights_mem_each (j := 2) rfl rfl n hn)))
  have lw := laidWalk hL
  refine (walk a0 (.slice a1 len1 cap1) z1 (.slice a2 len2 cap2) z2 W w0 w1 w2 lw).mono fun e W' ⟨he, bel⟩ => ?_
  subst he
  exact ⟨_, rfl, _, _, _, [], _, [], hW', trodAll_mk1 (shut_bool Tryz.underlying4 _), (trodAll_cons_mk (shut_int Tryz.underlying3 w0) (trodAll_cons_mk (Below.trod laidOut (by kernel_rfl) (of_decide_eq_true (by kernel_rfl)) k1 bel lt1) (trodAll_cons_mk (Below.trod laidOut (by kernel_rfl) (of_decide_eq_true (by kernel_rfl)) k2 bel lt2) trodAll_mk0))), rfl, bel.frame _, fun h => by cases h⟩

theorem reads (os : Os) {H : Type} (enc : TypeId × Value → H) : ∃ places, DataW.whole enc Tryz.prog ((laidWorld os).forCall (fun _ _ => 0) ⟨#[], #[.int .i64 0, .slice none 0 0, .slice none 0 0], []⟩).memory Tryz.f4.params.toList Rows.talkPlaysSpec.vars false (#[.int .i64 0, .slice none 0 0, .slice none 0 0] : Array Value).toList 8 = some ([.lit (.int .i64 0), .nil, .nil], [], places) :=
  ⟨[], by kernel_rfl⟩
theorem laid_met (os : Os) : laidMetH Tryz.prog Rows.talkPlaysRow.laid ((laidWorld os).forCall (fun _ _ => 0) ⟨#[], #[.int .i64 0, .slice none 0 0, .slice none 0 0], []⟩).memory := laidMetW os _

set_option maxRecDepth 100000 in
theorem lifted (os : Os) (started : os.Started) (H : Type) (enc : TypeId × Value → H) (F : Stop.Interp) :
    ReturnsInHanded {} Tryz.checked os 4 .any ((OpenSpec.ofChange Rows.talkPlaysSpec).preRow enc Tryz.prog Tryz.f4 Rows.talkPlaysRow.domain false Rows.talkPlaysRow.laid) (((OpenSpec.ofChange Rows.talkPlaysSpec).at F).post enc Tryz.prog Tryz.f4 false true false false) := by
  obtain ⟨places, hx⟩ := reads os enc
  refine returnsInHanded_of_row (C := Tryz.checked) (s := OpenSpec.ofChange Rows.talkPlaysSpec) own started (by kernel_rfl) Tryz.func4
    (witness_row_at (enc := enc) (C := Tryz.checked) false (laidWorld os) #[.int .i64 0, .slice none 0 0, .slice none 0 0] rfl (by kernel_rfl) (by kernel_rfl) (by kernel_rfl)
      (OpenSpec.preRow_of_cond 8 hx (by kernel_rfl) (fun k hk => by cases hk) (by kernel_rfl) (laid_met os))) ?_
  intro W base args ds gs before hval hW _ _ hsz hL _ _
  exact contract H enc W base args ds gs before hval hW hsz hL
end Go.Proofs.YtmfbaijbigodkaaGreatDoor.talkPlays
