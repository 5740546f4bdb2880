/- The walk and the row of TalkPrefix: for every size, steps and texts the law returns true: what is read is a beginning of what was written, whatever is lost, doubled and turned round; and when the link is good again all of it comes. Condition: errors.errorType and the tables of kinds and counts hold what the program's text lays (the row lists them, the card ties them). -/
import Derived.Test.YtaindcicloapfaaGreatDoorZG
import Derived.Deep.DeepCutAuto
import Derived.Deep.LoopGhost
import Derived.Deep.QuietTactic
import Derived.BigQuiet
import Derived.Deep.DeepHandedRow
import Derived.LaidLaws
import Derived.LaidHandle
import Derived.Deep.DeepWitnessRowRef
import Derived.Test.YtaindcicloapfaaGreatDoorRows
import Derived.WalkKit
import Derived.ProofKit
import Derived.OpenShut
import Derived.ShutString
import Derived.ChangeOld
import Derived.Below
import Derived.Lib.SmallJoins
import Derived.Deep.Slices
import Derived.Deep.Matrix
import Derived.Deep.Strs
namespace Go.Proofs.YtaindcicloapfaaGreatDoor.talkPrefix
open Go.ChangeShapes Go.WideShapes Go.ChangeAt Go.RowKit
open Go.ChangeMaps (open_string shut_string)
set_option linter.unusedVariables false

noncomputable abbrev laidWorld := YtaindcicloapfaaGreatDoor.laidWorld2
theorem laidMetW (os : Os) (args : Array Value) : laidMetH Tryz.prog Rows.talkPrefixRow.laid ((laidWorld os).forCall (fun _ _ => 0) ⟨#[], args, []⟩).memory := laidMet_ekc os args
theorem laidWalk {W : World} (h : laidMetH Tryz.prog Rows.talkPrefixRow.laid W) : ETok W ∧ KTab W ∧ CTab W := laid_ekc h
theorem same_at (n : Int) (hn : n ≠ 0) (w : World) (hg : ETok w) : Calls Tryz.prog 10 #[.iface 118 (.int .i64 n), .int .i64 n] w fun ev w' => ev = .returned (.bool true) ∧ Below w.heap.size w w' := by
  have := same_yes n w hg
  rw [errV_pos hn] at this
  exact this
def ab : ByteArray := ⟨#[97, 98]⟩
def q1 : EnS := (EnS.new 10).write ab
theorem q1_eq : q1 = { EnS.new 10 with data := ab } := (new_write (n := 10) (d := ab) (by decide)).1
theorem q1_ok : EnOk q1 := (EnOk.new (by decide) (by decide)).write ab
theorem fact_take : (EnS.new 10).takeE q1.packet = 0 := by
  rw [(first_take q1_ok (by rw [q1_eq]; rfl) (by rw [q1_eq]; rfl) rfl).1, q1_eq]
  decide
theorem fact_read : ((EnS.new 10).take q1.packet).readS 9 = ab := by
  rw [(first_take q1_ok (by rw [q1_eq]; rfl) (by rw [q1_eq]; rfl) rfl).2, q1_eq]
  decide
def s1 : TkS := (TkS.new 10).write 0 ab
def s2 : TkS := s1.send 0
noncomputable def s3 : TkS := s2.come 0
theorem s1_eq : s1 = ⟨[], q1, EnS.new 10⟩ := rfl
theorem s2_eq : s2 = ⟨[⟨1, ⟨q1.packet.toArray⟩⟩], q1.make, EnS.new 10⟩ := by
  show TkS.send s1 0 = _
  rw [s1_eq]; rfl
theorem facts : (TkS.new 10).writeE 0 ab = 0 ∧ (s1.e 0).made.length ≤ 1000 ∧ s1.sendE 0 = 0 ∧ s2.e0.made.length ≤ 1000 ∧ s2.e1.made.length ≤ 1000 ∧ s2.comeE 0 = 0 ∧ TkS.readE 1 9 = 0 ∧ s3.readS 1 9 = ab := by
  have h2 := s2_eq
  have h3 : s3 = ⟨[], q1.make, (EnS.new 10).take q1.packet⟩ := by
    show TkS.come s2 0 = _
    rw [h2]
    show TkS.mk [] q1.make ((EnS.new 10).take (ByteArray.mk q1.packet.toArray).data.toList) = _
    rw [bytes_of]
  refine ⟨(new_write (n := 10) (d := ab) (by decide)).2, by rw [s1_eq]; show q1.made.length ≤ 1000; rw [q1_eq]; show 0 ≤ 1000; omega, by rw [s1_eq]; rfl, ?_, ?_, ?_, rfl, ?_⟩
  · rw [h2]; show (q1.made ++ [q1.pieces]).length ≤ 1000; rw [q1_eq]; show 1 ≤ 1000; omega
  · rw [h2]; show 0 ≤ 1000; omega
  · rw [h2]
    show (EnS.new 10).takeE (ByteArray.mk q1.packet.toArray).data.toList = 0
    rw [bytes_of]; exact fact_take
  · rw [h3]; exact fact_read
theorem tabs {w w1 : World} {s : TkS} {g : Nat} {r : List Thing} (hK : KTab w) (hC : CTab w) {S : List Nat} (up : ∀ (X : World) (t : Thing), Leaves w1 X S t → Own w [] X ((talkT g s :: r).set 0 t)) :
    ∀ X, Out w1 X S → KTab X ∧ CTab X := fun X hX => by
  have o := up X ⟨fun _ S => S = [], fun h k hk => by rw [h] at hk; simp at hk, fun h _ _ => h⟩ ⟨[], rfl, hX, by simp⟩
  exact ⟨hK.later o.since, hC.later o.since⟩
/-- what the law keeps of both -/
structure St (s : TkS) (d0 d1 g0 g1 : ByteArray) : Prop where
  d0 : s.e0.data = d0
  d1 : s.e1.data = d1
  g0 : s.got 0 = g0
  g1 : s.got 1 = g1
theorem St.calm {s s' : TkS} {d0 d1 g0 g1 : ByteArray} (h : St s d0 d1 g0 g1) (c : Calm_ s s') : St s' d0 d1 g0 g1 := ⟨by rw [c.d0]; exact h.d0, by rw [c.d1]; exact h.d1, by rw [c.got.1]; exact h.g0, by rw [c.got.2]; exact h.g1⟩
theorem st_text {s : TkS} {i : Nat} {d0 d1 g0 g1 : ByteArray} (h : St s d0 d1 g0 g1) (t : Tkg s i) : (g0.size ≤ d1.size ∧ d1.extract 0 g0.size = g0) ∧ (g1.size ≤ d0.size ∧ d0.extract 0 g1.size = g1) := by
  obtain ⟨h1, h2, h3, h4⟩ := h
  have b0 := t.begin0
  have b1 := t.begin1
  have e0 : s.got 0 = s.e1.data.extract 0 s.e0.t := rfl
  have e1 : s.got 1 = s.e0.data.extract 0 s.e1.t := rfl
  have z0 : g0.size = s.e0.t := by rw [← h3, e0, ByteArray.size_extract]; omega
  have z1 : g1.size = s.e1.t := by rw [← h4, e1, ByteArray.size_extract]; omega
  refine ⟨⟨by rw [z0, ← h2]; exact b0, by rw [z0, ← h2, ← e0]; exact h3⟩, ⟨by rw [z1, ← h1]; exact b1, by rw [z1, ← h1, ← e1]; exact h4⟩⟩
theorem st_write {s : TkS} {i : Nat} {d0 d1 g0 g1 : ByteArray} (h : St s d0 d1 g0 g1) (t : Tkg s i) (who : Int) (d : ByteArray) : Tkg (s.write who d) (i + 1) ∧ St (s.write who d) (if who = 0 ∧ s.writeE who d = 0 then d0 ++ d else d0) (if who = 1 ∧ s.writeE who d = 0 then d1 ++ d else d1) g0 g1 := by
  obtain ⟨a, b, c, e, f⟩ := t.write who d
  exact ⟨a, ⟨by rw [e, h.d0], by rw [f, h.d1], by rw [b]; exact h.g0, by rw [c]; exact h.g1⟩⟩
theorem st_read {s : TkS} {i : Nat} {d0 d1 g0 g1 : ByteArray} (h : St s d0 d1 g0 g1) (t : Tkg s i) (who n : Int) : Tkg (s.read who n) (i + 1) ∧ St (s.read who n) d0 d1 (if who = 0 then g0 ++ s.readS who n else g0) (if who = 1 then g1 ++ s.readS who n else g1) := by
  obtain ⟨a, b, c, e, f⟩ := t.read who n
  exact ⟨a, ⟨by rw [b]; exact h.d0, by rw [c]; exact h.d1, by rw [e, h.g0], by rw [f, h.g1]⟩⟩
theorem read_bad {s : TkS} {who n : Int} (h : TkS.readE who n ≠ 0) : s.readS who n = ⟨#[]⟩ := by
  unfold TkS.readE at h
  unfold TkS.readS
  cases hw : whoB who with
  | false => rfl
  | true =>
    rw [hw] at h
    rw [if_pos rfl] at h ⊢
    unfold EnS.readE at h
    unfold EnS.readS
    by_cases hn : n < 0
    · rw [if_pos hn]
    · rw [if_neg hn] at h; exact absurd rfl h
theorem app_none (g : ByteArray) : g ++ (⟨#[]⟩ : ByteArray) = g := ByteArray.append_empty

theorem wr_who {s : TkS} {who : Int} {d : ByteArray} (h : s.writeE who d = 0) : who = 0 ∨ who = 1 := by
  unfold TkS.writeE at h
  cases hw : whoB who with
  | true => exact whoB_iff.1 hw
  | false => rw [hw] at h; cases h
theorem wr_bad {s : TkS} {i : Nat} {d0 d1 g0 g1 : ByteArray} (h : St s d0 d1 g0 g1) (t : Tkg s i) {who : Int} {d : ByteArray} (he : s.writeE who d ≠ 0) : Tkg (s.write who d) (i + 1) ∧ St (s.write who d) d0 d1 g0 g1 := by
  have := st_write h t who d
  rw [if_neg (fun k => he k.2), if_neg (fun k => he k.2)] at this
  exact this
theorem wr_0 {s : TkS} {i : Nat} {d0 d1 g0 g1 : ByteArray} (h : St s d0 d1 g0 g1) (t : Tkg s i) {d : ByteArray} (he : s.writeE 0 d = 0) : Tkg (s.write 0 d) (i + 1) ∧ St (s.write 0 d) (d0 ++ d) d1 g0 g1 ∧ d0.size ≤ 60 ∧ d.size ≤ 60 := by
  have hh := st_write h t 0 d
  rw [if_pos ⟨rfl, he⟩, if_neg (by rintro ⟨k, _⟩; cases k)] at hh
  have h1 : (if 60 < s.e0.data.size + d.size then (4 : Int) else 0) = 0 := he
  have h2 := h.d0
  have h3 : ¬ 60 < s.e0.data.size + d.size := fun hc => by rw [if_pos hc] at h1; cases h1
  rw [h2] at h3
  exact ⟨hh.1, hh.2, by omega, by omega⟩
theorem wr_1 {s : TkS} {i : Nat} {d0 d1 g0 g1 : ByteArray} (h : St s d0 d1 g0 g1) (t : Tkg s i) {d : ByteArray} (he : s.writeE 1 d = 0) : Tkg (s.write 1 d) (i + 1) ∧ St (s.write 1 d) d0 (d1 ++ d) g0 g1 ∧ d1.size ≤ 60 ∧ d.size ≤ 60 := by
  have hh := st_write h t 1 d
  rw [if_neg (by rintro ⟨k, _⟩; cases k), if_pos ⟨rfl, he⟩] at hh
  have h1 : (if 60 < s.e1.data.size + d.size then (4 : Int) else 0) = 0 := he
  have h2 := h.d1
  have h3 : ¬ 60 < s.e1.data.size + d.size := fun hc => by rw [if_pos hc] at h1; cases h1
  rw [h2] at h3
  exact ⟨hh.1, hh.2, by omega, by omega⟩
theorem rd_who {who n : Int} (h : TkS.readE who n = 0) : who = 0 ∨ who = 1 := by
  unfold TkS.readE at h
  cases hw : whoB who with
  | true => exact whoB_iff.1 hw
  | false => rw [hw] at h; cases h
theorem rd_bad {s : TkS} {i : Nat} {d0 d1 g0 g1 : ByteArray} (h : St s d0 d1 g0 g1) (t : Tkg s i) {who n : Int} (he : TkS.readE who n ≠ 0) : Tkg (s.read who n) (i + 1) ∧ St (s.read who n) d0 d1 g0 g1 := by
  have hh := st_read h t who n
  rw [read_bad he, app_none, app_none, ite_self, ite_self] at hh
  exact hh
theorem data_few {s : TkS} {i : Nat} {d0 d1 g0 g1 : ByteArray} (h : St s d0 d1 g0 g1) (t : Tkg s i) : d0.size ≤ 60 ∧ d1.size ≤ 60 ∧ g0.size ≤ 60 ∧ g1.size ≤ 60 := by
  have h1 := t.pr.ox.dz
  have h2 := t.pr.oy.dz
  rw [h.d0] at h1
  rw [h.d1] at h2
  obtain ⟨⟨a, _⟩, ⟨b, _⟩⟩ := st_text h t
  omega
theorem rd_0 {s : TkS} {i : Nat} {d0 d1 g0 g1 : ByteArray} (h : St s d0 d1 g0 g1) (t : Tkg s i) (n : Int) : Tkg (s.read 0 n) (i + 1) ∧ St (s.read 0 n) d0 d1 (g0 ++ s.readS 0 n) g1 ∧ g0.size ≤ 60 ∧ (s.readS 0 n).size ≤ 60 := by
  have hh := st_read h t 0 n
  rw [if_pos rfl, if_neg (by decide)] at hh
  have h3 := (data_few hh.2 hh.1).2.2.1
  rw [ByteArray.size_append] at h3
  exact ⟨hh.1, hh.2, by omega, by omega⟩
theorem rd_1 {s : TkS} {i : Nat} {d0 d1 g0 g1 : ByteArray} (h : St s d0 d1 g0 g1) (t : Tkg s i) (n : Int) : Tkg (s.read 1 n) (i + 1) ∧ St (s.read 1 n) d0 d1 g0 (g1 ++ s.readS 1 n) ∧ g1.size ≤ 60 ∧ (s.readS 1 n).size ≤ 60 := by
  have hh := st_read h t 1 n
  rw [if_neg (by decide), if_pos rfl] at hh
  have h3 := (data_few hh.2 hh.1).2.2.2
  rw [ByteArray.size_append] at h3
  exact ⟨hh.1, hh.2, by omega, by omega⟩
theorem few_made {s : TkS} {i : Nat} (t : Tkg s i) (hi : i ≤ 1000) (who : Int) : (s.e who).made.length ≤ 1000 := by
  have := t.m0
  have := t.m1
  unfold TkS.e
  split <;> omega
theorem give0 {L : List Let} (h : 0 < L.length) : giveE L 0 = 0 ∧ (giveL L 0).length + 1 = L.length := by
  have hb : isB L 0 = true := isB_iff.2 ⟨by omega, by omega⟩
  unfold giveE giveL
  rw [if_pos hb, if_pos hb]
  refine ⟨rfl, ?_⟩
  rw [List.length_append, List.length_take, List.length_drop]
  simp
  omega
theorem good_few {s : TkS} {i : Nat} {d0 d1 g0 g1 : ByteArray} (h : St s d0 d1 g0 g1) (t : Good_ s i) : g0.size ≤ 60 ∧ g1.size ≤ 60 := by
  obtain ⟨ka, kb, hg, _⟩ := t.ex
  have hd : s.e0.data.size ≤ 60 ∧ s.e1.data.size ≤ 60 := by
    split at hg
    · exact ⟨hg.pr.ox.dz, hg.pr.oy.dz⟩
    · exact ⟨hg.pr.oy.dz, hg.pr.ox.dz⟩
  have z0 : g0.size = (s.e1.data.extract 0 s.e0.t).size := by rw [← h.g0]; rfl
  have z1 : g1.size = (s.e0.data.extract 0 s.e1.t).size := by rw [← h.g1]; rfl
  rw [ByteArray.size_extract] at z0 z1
  omega
/-- what one step of the good talk gives -/
structure Gone (s : TkS) (i k : Nat) (d0 d1 g0 g1 : ByteArray) : Prop where
  m : (s.e (k : Int)).made.length ≤ 1000
  e : s.sendE (k : Int) = 0
  m0 : (s.send (k : Int)).e0.made.length ≤ 1000
  m1 : (s.send (k : Int)).e1.made.length ≤ 1000
  or_ : (s.send (k : Int)).comeE 0 = 4 ∨ ((s.send (k : Int)).comeE 0 = 0 ∧ TkS.readE (1 - (k : Int)) 60 = 0 ∧ Good_ (((s.send (k : Int)).come 0).read (1 - (k : Int)) 60) (2 * i + k + 1) ∧
    St (((s.send (k : Int)).come 0).read (1 - (k : Int)) 60) d0 d1 (if k = 1 then g0 ++ ((s.send (k : Int)).come 0).readS (1 - (k : Int)) 60 else g0) (if k = 1 then g1 else g1 ++ ((s.send (k : Int)).come 0).readS (1 - (k : Int)) 60) ∧ g0.size ≤ 60 ∧ g1.size ≤ 60 ∧ (((s.send (k : Int)).come 0).readS (1 - (k : Int)) 60).size ≤ 60)
theorem good_step {s : TkS} {i k : Nat} {d0 d1 g0 g1 : ByteArray} (h : St s d0 d1 g0 g1) (t : Good_ s (2 * i + k)) (hk : k = 0 ∨ k = 1) (hi : i < 130) : Gone s i k d0 d1 g0 g1 := by
  have e : ((2 * i + k : Nat) : Int) % 2 = (k : Int) := by omega
  have hn := t.next (by omega)
  rw [e] at hn
  obtain ⟨a, b, c, d, f⟩ := hn
  refine ⟨a, b, c, d, ?_⟩
  rcases f with f | ⟨f1, f2, f3, f4, f5, f6, f7⟩
  · exact Or.inl f
  · right
    have hst : St (((s.send (k : Int)).come 0).read (1 - (k : Int)) 60) d0 d1 (if k = 1 then g0 ++ ((s.send (k : Int)).come 0).readS (1 - (k : Int)) 60 else g0) (if k = 1 then g1 else g1 ++ ((s.send (k : Int)).come 0).readS (1 - (k : Int)) 60) := by
      refine ⟨by rw [f4]; exact h.d0, by rw [f5]; exact h.d1, ?_, ?_⟩
      · rcases hk with rfl | rfl
        · rw [if_neg (by decide)]
          exact f7.trans h.g0
        · rw [if_pos rfl]
          refine f6.trans ?_
          rw [show (1 - ((1 : Nat) : Int)) = 0 from rfl, h.g0]
      · rcases hk with rfl | rfl
        · rw [if_neg (by decide)]
          refine f6.trans ?_
          rw [show (1 - ((0 : Nat) : Int)) = 1 from rfl, h.g1]
        · rw [if_pos rfl]
          exact f7.trans h.g1
    have q1 := good_few h t
    have q2 := good_few hst f3
    refine ⟨f1, f2, f3, hst, q1.1, q1.2, ?_⟩
    rcases hk with rfl | rfl
    · rw [if_neg (by decide), if_neg (by decide), ByteArray.size_append] at q2; omega
    · rw [if_pos rfl, if_pos rfl, ByteArray.size_append] at q2; omega
def growRow (u : Nat → Value) : Nat → Nat → List Value
  | _, 0 => []
  | k, n + 1 => u k :: growRow u (k + 1) n
theorem growRow_congr {u v : Nat → Value} : ∀ (n k : Nat), (∀ i, k ≤ i → u i = v i) → growRow u k n = growRow v k n
  | 0, _, _ => rfl
  | n + 1, k, h => by
    rw [growRow, growRow, h k (Nat.le_refl k), growRow_congr n (k + 1) (fun i hi => h i (by omega))]
theorem growRow_any : ∀ (n k : Nat) (U : List Value), U.length = n → ∃ u : Nat → Value, U = growRow u k n
  | 0, k, U, h => ⟨fun _ => .nilIface, by rw [List.length_eq_zero_iff.1 h]; rfl⟩
  | n + 1, k, [], h => by simp at h
  | n + 1, k, x :: r, h => by
    obtain ⟨u, hu⟩ := growRow_any n (k + 1) r (by simpa using h)
    refine ⟨fun i => if i = k then x else u i, ?_⟩
    rw [growRow, if_pos rfl, hu]
    congr 1
    exact growRow_congr n (k + 1) (fun i hi => by rw [if_neg (by omega)])
set_option maxRecDepth 100000 in
theorem growTail {U : List Value} (h : U.length = 253) : ∃ u : Nat → Value, U = [u 33, u 34, u 35, u 36, u 37, u 38, u 39, u 40, u 41, u 42, u 43, u 44, u 45, u 46, u 47, u 48, u 49, u 50, u 51, u 52, u 53, u 54, u 55, u 56, u 57, u 58, u 59, u 60, u 61, u 62, u 63, u 64, u 65, u 66, u 67, u 68, u 69, u 70, u 71, u 72, u 73, u 74, u 75, u 76, u 77, u 78, u 79, u 80, u 81, u 82, u 83, u 84, u 85, u 86, u 87, u 88, u 89, u 90, u 91, u 92, u 93, u 94, u 95, u 96, u 97, u 98, u 99, u 100, u 101, u 102, u 103, u 104, u 105, u 106, u 107, u 108, u 109, u 110, u 111, u 112, u 113, u 114, u 115, u 116, u 117, u 118, u 119, u 120, u 121, u 122, u 123, u 124, u 125, u 126, u 127, u 128, u 129, u 130, u 131, u 132, u 133, u 134, u 135, u 136, u 137, u 138, u 139, u 140, u 141, u 142, u 143, u 144, u 145, u 146, u 147, u 148, u 149, u 150, u 151, u 152, u 153, u 154, u 155, u 156, u 157, u 158, u 159, u 160, u 161, u 162, u 163, u 164, u 165, u 166, u 167, u 168, u 169, u 170, u 171, u 172, u 173, u 174, u 175, u 176, u 177, u 178, u 179, u 180, u 181, u 182, u 183, u 184, u 185, u 186, u 187, u 188, u 189, u 190, u 191, u 192, u 193, u 194, u 195, u 196, u 197, u 198, u 199, u 200, u 201, u 202, u 203, u 204, u 205, u 206, u 207, u 208, u 209, u 210, u 211, u 212, u 213, u 214, u 215, u 216, u 217, u 218, u 219, u 220, u 221, u 222, u 223, u 224, u 225, u 226, u 227, u 228, u 229, u 230, u 231, u 232, u 233, u 234, u 235, u 236, u 237, u 238, u 239, u 240, u 241, u 242, u 243, u 244, u 245, u 246, u 247, u 248, u 249, u 250, u 251, u 252, u 253, u 254, u 255, u 256, u 257, u 258, u 259, u 260, u 261, u 262, u 263, u 264, u 265, u 266, u 267, u 268, u 269, u 270, u 271, u 272, u 273, u 274, u 275, u 276, u 277, u 278, u 279, u 280, u 281, u 282, u 283, u 284, u 285] := by
  obtain ⟨u, hu⟩ := growRow_any 253 33 U h
  exact ⟨u, hu.trans (by kernel_rfl)⟩
/-- the talk behind i steps, and what the law keeps of it -/
def Box (w wx : World) (g gw gg : Nat) (s : TkS) (d0 d1 g0 g1 : ByteArray) (R : List Thing) : Prop := St s d0 d1 g0 g1 ∧ Own w [] wx ([talkT g s, Thing.block gw 58 #[.string d0, .string d1], Thing.block gg 58 #[.string g0, .string g1]] ++ R)
set_option maxRecDepth 100000 in
/-- a round's head -/
def LI (w : World) (n : Int) (A A2 : Option Addr) (l cap l2 cap2 g gw gg : Nat) (a : Act) (wx : World) : Prop := ∃ (k : Nat) (s : TkS) (d0 d1 g0 g1 : ByteArray), (k ≤ 40 ∧ Tkg s k ∧ Box w wx g gw gg s d0 d1 g0 g1 []) ∧
  ∃ (t3 t4 t5 t6 t7 t8 t9 t10 t11 t12 t13 t15 t19 t20 t21 t22 t23 t24 t25 t26 t27 t28 t29 t30 t31 t32 : Value) (U : List Value), U.length = 253 ∧ a = ⟨((.int .i64 n) :: (.slice A l cap) :: (.slice A2 l2 cap2) :: t3 :: t4 :: t5 :: t6 :: t7 :: t8 :: t9 :: t10 :: t11 :: t12 :: t13 :: (.pointer (some ⟨g, 0, none⟩)) :: t15 :: (.pointer (some ⟨gw, 0, none⟩)) :: (.pointer (some ⟨gg, 0, none⟩)) :: (.int .i64 k) :: t19 :: t20 :: t21 :: t22 :: t23 :: t24 :: t25 :: t26 :: t27 :: t28 :: t29 :: t30 :: t31 :: t32 :: U).toArray, []⟩
def LM (a : Act) (wx : World) : Nat := 40 - (intOf (a.tmps.toList.getD 18 undef)).toNat
set_option maxRecDepth 100000 in
/-- behind the steps -/
def SA (w : World) (n : Int) (A A2 : Option Addr) (l cap l2 cap2 g gw gg : Nat) (a : Act) (wx : World) : Prop := ∃ (s : TkS) (d0 d1 g0 g1 : ByteArray), (Tkg s 40 ∧ Box w wx g gw gg s d0 d1 g0 g1 []) ∧
  ∃ (t3 t4 t5 t6 t7 t8 t9 t10 t11 t12 t13 t15 t18 t19 t20 t21 t22 t23 t24 t25 t26 t27 t28 t29 t30 t31 t32 : Value) (U : List Value), U.length = 253 ∧ a = ⟨((.int .i64 n) :: (.slice A l cap) :: (.slice A2 l2 cap2) :: t3 :: t4 :: t5 :: t6 :: t7 :: t8 :: t9 :: t10 :: t11 :: t12 :: t13 :: (.pointer (some ⟨g, 0, none⟩)) :: t15 :: (.pointer (some ⟨gw, 0, none⟩)) :: (.pointer (some ⟨gg, 0, none⟩)) :: t18 :: t19 :: t20 :: t21 :: t22 :: t23 :: t24 :: t25 :: t26 :: t27 :: t28 :: t29 :: t30 :: t31 :: t32 :: U).toArray, []⟩
set_option maxRecDepth 100000 in
def RC (w : World) (n : Int) (A A2 : Option Addr) (l cap l2 cap2 g gw gg : Nat) (k : Nat) (q : Nat) (wo : World) (x : List Int) (a : Act) (wx : World) : Prop := (BlockIs wx q 59 (x.map fun n => .int .i64 n).toArray ∧ Since wo wx) ∧
  ∃ (t3 t4 t5 t6 t7 t8 t9 t10 t11 t12 t13 t15 t20 t21 t22 t23 t24 t25 t26 t27 t28 t29 t30 t31 t32 : Value) (U : List Value), U.length = 253 ∧ a = ⟨((.int .i64 n) :: (.slice A l cap) :: (.slice A2 l2 cap2) :: t3 :: t4 :: t5 :: t6 :: t7 :: t8 :: t9 :: t10 :: t11 :: t12 :: t13 :: (.pointer (some ⟨g, 0, none⟩)) :: t15 :: (.pointer (some ⟨gw, 0, none⟩)) :: (.pointer (some ⟨gg, 0, none⟩)) :: (.int .i64 k) :: (.pointer (some ⟨q, 0, none⟩)) :: t20 :: t21 :: t22 :: t23 :: t24 :: t25 :: t26 :: t27 :: t28 :: t29 :: t30 :: t31 :: t32 :: U).toArray, []⟩
set_option maxRecDepth 100000 in
def RCL (w : World) (n : Int) (A A2 : Option Addr) (l cap l2 cap2 g gw gg : Nat) (k : Nat) (q : Nat) (wo : World) (r : List Int) (a : Act) (wx : World) : Prop := ∃ j : Nat, (j ≤ 3 ∧ j ≤ r.length ∧ BlockIs wx q 59 #[.int .i64 (vv r j 0), .int .i64 (vv r j 1), .int .i64 (vv r j 2)] ∧ Since wo wx) ∧
  ∃ (t3 t4 t5 t6 t7 t8 t9 t10 t11 t12 t13 t15 t21 t22 t23 t24 t25 t26 t27 t28 t29 t30 t31 t32 : Value) (U : List Value), U.length = 253 ∧ a = ⟨((.int .i64 n) :: (.slice A l cap) :: (.slice A2 l2 cap2) :: t3 :: t4 :: t5 :: t6 :: t7 :: t8 :: t9 :: t10 :: t11 :: t12 :: t13 :: (.pointer (some ⟨g, 0, none⟩)) :: t15 :: (.pointer (some ⟨gw, 0, none⟩)) :: (.pointer (some ⟨gg, 0, none⟩)) :: (.int .i64 k) :: (.pointer (some ⟨q, 0, none⟩)) :: (.int .i64 j) :: t21 :: t22 :: t23 :: t24 :: t25 :: t26 :: t27 :: t28 :: t29 :: t30 :: t31 :: t32 :: U).toArray, []⟩
def RCM (a : Act) (wx : World) : Nat := 3 - (intOf (a.tmps.toList.getD 20 undef)).toNat
set_option maxRecDepth 100000 in
/-- behind the text of the step -/
def DC (w : World) (n : Int) (A A2 : Option Addr) (l cap l2 cap2 g gw gg : Nat) (k gv : Nat) (wv : World) (a : Act) (wx : World) : Prop := ∃ d : ByteArray, (wv = wx ∧ d.size ≤ 9223372036854775000) ∧
  ∃ (t3 t4 t5 t6 t7 t8 t9 t10 t11 t12 t13 t15 t20 t22 t23 t24 t25 t26 t27 t28 t29 t30 t31 t32 : Value) (U : List Value), U.length = 253 ∧ a = ⟨((.int .i64 n) :: (.slice A l cap) :: (.slice A2 l2 cap2) :: t3 :: t4 :: t5 :: t6 :: t7 :: t8 :: t9 :: t10 :: t11 :: t12 :: t13 :: (.pointer (some ⟨g, 0, none⟩)) :: t15 :: (.pointer (some ⟨gw, 0, none⟩)) :: (.pointer (some ⟨gg, 0, none⟩)) :: (.int .i64 k) :: (.pointer (some ⟨gv, 0, none⟩)) :: t20 :: (.string d) :: t22 :: t23 :: t24 :: t25 :: t26 :: t27 :: t28 :: t29 :: t30 :: t31 :: t32 :: U).toArray, []⟩
set_option maxRecDepth 100000 in
/-- behind the question who -/
def WC (w : World) (n : Int) (A A2 : Option Addr) (l cap l2 cap2 g gw gg : Nat) (k gv : Nat) (d : ByteArray) (x1 : Int) (wv : World) (a : Act) (wx : World) : Prop := wv = wx ∧
  ∃ (t3 t4 t5 t6 t7 t8 t9 t10 t11 t12 t13 t15 t20 t23 t24 t25 t26 t27 t28 t29 t30 t31 t32 : Value) (U : List Value), U.length = 253 ∧ a = ⟨((.int .i64 n) :: (.slice A l cap) :: (.slice A2 l2 cap2) :: t3 :: t4 :: t5 :: t6 :: t7 :: t8 :: t9 :: t10 :: t11 :: t12 :: t13 :: (.pointer (some ⟨g, 0, none⟩)) :: t15 :: (.pointer (some ⟨gw, 0, none⟩)) :: (.pointer (some ⟨gg, 0, none⟩)) :: (.int .i64 k) :: (.pointer (some ⟨gv, 0, none⟩)) :: t20 :: (.string d) :: (.bool (whoB x1)) :: t23 :: t24 :: t25 :: t26 :: t27 :: t28 :: t29 :: t30 :: t31 :: t32 :: U).toArray, []⟩
set_option maxRecDepth 100000 in
/-- behind the switch -/
def SC (w : World) (n : Int) (A A2 : Option Addr) (l cap l2 cap2 g gw gg : Nat) (k : Nat) (a : Act) (wx : World) : Prop := ∃ (s : TkS) (d0 d1 g0 g1 : ByteArray), (Tkg s (k + 1) ∧ Box w wx g gw gg s d0 d1 g0 g1 []) ∧
  ∃ (t3 t4 t5 t6 t7 t8 t9 t10 t11 t12 t13 t15 t19 t20 t21 t22 t23 t24 t25 t26 t27 t28 t29 t30 t31 t32 : Value) (U : List Value), U.length = 253 ∧ a = ⟨((.int .i64 n) :: (.slice A l cap) :: (.slice A2 l2 cap2) :: t3 :: t4 :: t5 :: t6 :: t7 :: t8 :: t9 :: t10 :: t11 :: t12 :: t13 :: (.pointer (some ⟨g, 0, none⟩)) :: t15 :: (.pointer (some ⟨gw, 0, none⟩)) :: (.pointer (some ⟨gg, 0, none⟩)) :: (.int .i64 k) :: t19 :: t20 :: t21 :: t22 :: t23 :: t24 :: t25 :: t26 :: t27 :: t28 :: t29 :: t30 :: t31 :: t32 :: U).toArray, []⟩
set_option maxRecDepth 100000 in
/-- letters are lost -/
def LL (w : World) (n : Int) (A A2 : Option Addr) (l cap l2 cap2 g gw gg : Nat) (j : Nat) (a : Act) (wx : World) : Prop := ∃ (s : TkS) (d0 d1 g0 g1 : ByteArray), (j = s.L.length ∧ Tkg s 90 ∧ Box w wx g gw gg s d0 d1 g0 g1 []) ∧
  ∃ (t3 t4 t5 t6 t7 t8 t9 t10 t11 t12 t13 t15 t18 t19 t20 t21 t22 t23 t24 t25 t26 t27 t28 t29 t30 t31 t32 : Value) (U : List Value), U.length = 253 ∧ a = ⟨((.int .i64 n) :: (.slice A l cap) :: (.slice A2 l2 cap2) :: t3 :: t4 :: t5 :: t6 :: t7 :: t8 :: t9 :: t10 :: t11 :: t12 :: t13 :: (.pointer (some ⟨g, 0, none⟩)) :: t15 :: (.pointer (some ⟨gw, 0, none⟩)) :: (.pointer (some ⟨gg, 0, none⟩)) :: t18 :: t19 :: t20 :: t21 :: t22 :: t23 :: t24 :: t25 :: t26 :: t27 :: t28 :: t29 :: t30 :: t31 :: t32 :: U).toArray, []⟩
set_option maxRecDepth 100000 in
/-- both speak -/
def LG (w : World) (n : Int) (A A2 : Option Addr) (l cap l2 cap2 g gw gg : Nat) (a : Act) (wx : World) : Prop := ∃ (i : Nat) (s : TkS) (d0 d1 g0 g1 : ByteArray), (i ≤ 130 ∧ Good_ s (2 * i) ∧ Box w wx g gw gg s d0 d1 g0 g1 []) ∧
  ∃ (t3 t4 t5 t6 t7 t8 t9 t10 t11 t12 t13 t15 t18 t19 t20 t21 t22 t23 t24 t25 t26 t28 t29 t30 t31 t32 : Value) (U : List Value), U.length = 253 ∧ a = ⟨((.int .i64 n) :: (.slice A l cap) :: (.slice A2 l2 cap2) :: t3 :: t4 :: t5 :: t6 :: t7 :: t8 :: t9 :: t10 :: t11 :: t12 :: t13 :: (.pointer (some ⟨g, 0, none⟩)) :: t15 :: (.pointer (some ⟨gw, 0, none⟩)) :: (.pointer (some ⟨gg, 0, none⟩)) :: t18 :: t19 :: t20 :: t21 :: t22 :: t23 :: t24 :: t25 :: t26 :: (.int .i64 i) :: t28 :: t29 :: t30 :: t31 :: t32 :: U).toArray, []⟩
def LGM (a : Act) (wx : World) : Nat := 130 - (intOf (a.tmps.toList.getD 27 undef)).toNat
set_option maxRecDepth 100000 in
/-- one speaks -/
def LK (w : World) (n : Int) (A A2 : Option Addr) (l cap l2 cap2 g gw gg : Nat) (i : Nat) (a : Act) (wx : World) : Prop := ∃ (k : Nat) (s : TkS) (d0 d1 g0 g1 : ByteArray), (k ≤ 2 ∧ Good_ s (2 * i + k) ∧ Box w wx g gw gg s d0 d1 g0 g1 []) ∧
  ∃ (t3 t4 t5 t6 t7 t8 t9 t10 t11 t12 t13 t15 t18 t19 t20 t21 t22 t23 t24 t25 t26 t29 t30 t31 t32 : Value) (U : List Value), U.length = 253 ∧ a = ⟨((.int .i64 n) :: (.slice A l cap) :: (.slice A2 l2 cap2) :: t3 :: t4 :: t5 :: t6 :: t7 :: t8 :: t9 :: t10 :: t11 :: t12 :: t13 :: (.pointer (some ⟨g, 0, none⟩)) :: t15 :: (.pointer (some ⟨gw, 0, none⟩)) :: (.pointer (some ⟨gg, 0, none⟩)) :: t18 :: t19 :: t20 :: t21 :: t22 :: t23 :: t24 :: t25 :: t26 :: (.int .i64 i) :: (.int .i64 k) :: t29 :: t30 :: t31 :: t32 :: U).toArray, []⟩
def LKM (a : Act) (wx : World) : Nat := 2 - (intOf (a.tmps.toList.getD 28 undef)).toNat

set_option maxRecDepth 100000 in
set_option maxHeartbeats 40000000 in
theorem walk (n : Int) (v1 : Value) (Z : List (List Int)) (v2 : Value) (T : List ByteArray) (w : World) (w0 : (Lit.int .i64 n).wf = true) (w1 : IntRowsIn w v1 Z) (w2 : StrsInS w v2 T) (hL : ETok w ∧ KTab w ∧ CTab w) :
    Calls Tryz.prog 4 #[.int .i64 n, v1, v2] w fun e w' => e = .returned (.bool true) ∧ Below w.heap.size w w' := by
  have HE := Lib.hid hL.1
  have HK := Lib.hid hL.2.1
  have HCT := Lib.hid hL.2.2
  obtain ⟨A, cap, rfl, hle0, hm0, hc⟩ := w1
  obtain ⟨⟨-, A2, cap2, rfl, hle2, hm2, hc2⟩, hS⟩ := w2
  unfold maxLen at hm0 hm2
  have hZ : Z.length ≤ 9223372036854775807 := by omega
  have hT0 : T.length ≤ 9223372036854775807 := by omega
  have HC := Lib.hid hc
  have HC2 := Lib.hid hc2
  have HS := Lib.hid hS
  have HF := Lib.hid facts
  have hab : (ab == ab) = true := by decide
  have HAB : Hid (ab = ⟨#[97, 98]⟩) := Lib.hid rfl
  clear hc hc2 hS hL w0
  go_enter Tryz.func4, Tryz.ntmps4
  go_wp2_with fail
  refine (tnew 10 (by decide) (by decide) _).mono ?_
  rintro e w1 ⟨g1, rfl, hl⟩
  have HW1 : Hid (Own w [] w1 [talkT g1 (TkS.new 10)]) := Lib.hid ((Own.start w).made hl)
  clear hl
  obtain ⟨S, hS, up⟩ := HW1.out.at_ 0 rfl
  go_wp2_with fail
  refine (twrite g1 (TkS.new 10) 0 ab _ S hS (by decide)).mono ?_
  rintro e w2 ⟨rfl, hl⟩
  rw [HF.out.1, errV_zero]
  have HW2 : Hid (Own w [] w2 [talkT g1 s1]) := Lib.hid (up _ _ hl)
  clear hl HW1 hS up
  obtain ⟨S, hS, up⟩ := HW2.out.at_ 0 rfl
  go_wp2_with fail
  refine (tsend g1 s1 0 _ S hS (HK.out.later HW2.out.since) HF.out.2.1).mono ?_
  rintro e w3 ⟨rfl, hl⟩
  rw [HF.out.2.2.1, errV_zero]
  have HW3 : Hid (Own w [] w3 [talkT g1 s2]) := Lib.hid (up _ _ hl)
  clear hl HW2 hS up
  obtain ⟨S, hS, up⟩ := HW3.out.at_ 0 rfl
  go_wp2_with fail
  refine (tcome g1 s2 0 _ S hS (tabs HK.out HCT.out up) HF.out.2.2.2.1 HF.out.2.2.2.2.1).mono ?_
  rintro e w4 ⟨rfl, hl⟩
  rw [HF.out.2.2.2.2.2.1, errV_zero]
  have HW4 : Hid (Own w [] w4 [talkT g1 s3]) := Lib.hid (up _ _ hl)
  clear hl HW3 hS up
  obtain ⟨S, hS, up⟩ := HW4.out.at_ 0 rfl
  go_wp2_with fail
  refine (tread g1 s3 1 9 _ S hS).mono ?_
  rintro e w5 ⟨rfl, hl⟩
  rw [HF.out.2.2.2.2.2.2.1, HF.out.2.2.2.2.2.2.2, HAB.out, errV_zero]
  have HW5 : Hid (Own w [] w5 []) := Lib.hid ((up _ _ hl).take 0)
  clear hl HW4 hS up HF
  by_cases hn : 1 ≤ n ∧ n ≤ 1000
  case neg =>
    go_wp2_with fail
    refine (tnew_no n hn _).mono ?_
    rintro e w6 ⟨rfl, hb6⟩
    rw [errV_pos (show (1 : Int) ≠ 0 by decide)]
    have HW6 := Lib.hid (HW5.out.later hb6)
    clear hb6 HW5
    by_cases h1 : n < 1
    · clear hn
      go_wp2_with fail
      go_ret
      exact ⟨rfl, HW6.out.since⟩
    · have h1' : decide (n < 1) = false := by simpa using h1
      have h2 : 1000 < n := by omega
      clear hn h1
      go_wp2_with fail
      go_ret
      exact ⟨rfl, HW6.out.since⟩
  go_wp2_with fail
  refine (tnew n hn.1 hn.2 _).mono ?_
  rintro e w6 ⟨g, rfl, hl⟩
  have HW6 : Hid (Own w [] w6 [talkT g (TkS.new n)]) := Lib.hid (HW5.out.made hl)
  have HT0 : Hid (Tkg (TkS.new n) 0) := Lib.hid (Tkg.start hn.1 hn.2)
  clear hl HW5 hn
  have HST0 : Hid (St (TkS.new n) ⟨#[]⟩ ⟨#[]⟩ ⟨#[]⟩ ⟨#[]⟩) := Lib.hid ⟨rfl, rfl, rfl, rfl⟩
  repeat ((fail_if_success (with_reducible refine stop_at 14 ?_)); first | fail | go_values | go_skip | go_guarded | go_step | go_upon | go_back | go_simp)
  have HWA : Hid (Own w [] ((w6.alloc (.cells #[.string ⟨#[]⟩, .string ⟨#[]⟩] 58)).alloc (.cells #[.string ⟨#[]⟩, .string ⟨#[]⟩] 58)) [talkT g (TkS.new n), Thing.block w6.heap.size 58 #[.string ⟨#[]⟩, .string ⟨#[]⟩], Thing.block (w6.heap.size + 1) 58 #[.string ⟨#[]⟩, .string ⟨#[]⟩]]) := Lib.hid (by
    have h1 := (HW6.out.alloc 58 #[.string ⟨#[]⟩, .string ⟨#[]⟩]).alloc 58 #[.string ⟨#[]⟩, .string ⟨#[]⟩]
    simpa using h1)
  obtain ⟨wa, hwa⟩ : ∃ x, (w6.alloc (.cells #[.string ⟨#[]⟩, .string ⟨#[]⟩] 58)).alloc (.cells #[.string ⟨#[]⟩, .string ⟨#[]⟩] 58) = x := ⟨_, rfl⟩
  obtain ⟨gw, hgw⟩ : ∃ x, w6.heap.size = x := ⟨_, rfl⟩
  obtain ⟨gg, hgg⟩ : ∃ x, gw + 1 = x := ⟨_, rfl⟩
  rw [hwa, hgw, hgg] at HWA
  rw [hwa, hgw, hgg]
  clear hwa hgw hgg HW6
  have HBX : Hid (Box w wa g gw gg (TkS.new n) ⟨#[]⟩ ⟨#[]⟩ ⟨#[]⟩ ⟨#[]⟩ []) := Lib.hid ⟨HST0.out, HWA.out⟩
  clear HWA HST0
  refine wp_cut (SA w n A A2 Z.length cap T.length cap2 g gw gg) ?_ ?_
  rotate_left
  next =>
    intro _ _ _ _
    go_wp2_with fail
    refine wp_loop (LI w n A A2 Z.length cap T.length cap2 g gw gg) LM ?_ ?_
    next => exact ⟨0, _, _, _, _, _, ⟨by omega, HT0.out, HBX.out⟩, _, _, _, _, _, _, _, _, _, _, _, _, _, _, _, _, _, _, _, _, _, _, _, _, _, _, _, (by kernel_rfl), rfl⟩
    next =>
      intro a' wr hinv
      obtain ⟨k, s, d0, d1, g0, g1, ⟨hk, ht, hbox⟩, t3, t4, t5, t6, t7, t8, t9, t10, t11, t12, t13, t15, t19, t20, t21, t22, t23, t24, t25, t26, t27, t28, t29, t30, t31, t32, U, hU, rfl⟩ := hinv
      obtain ⟨u, rfl⟩ := growTail hU; clear hU
      have HTK := Lib.hid ht
      have HBOX := Lib.hid hbox
      clear ht hbox HBX HT0
      by_cases hlen : k < Z.length
      case neg =>
        have hlen' : decide ((k : Int) < (Z.length : Int)) = false := by simp; omega
        go_wp2_with fail
        refine Met.intro ?_
        go_step
        exact ⟨s, d0, d1, g0, g1, ⟨HTK.out.more hk, HBOX.out⟩, _, _, _, _, _, _, _, _, _, _, _, _, _, _, _, _, _, _, _, _, _, _, _, _, _, _, _, _, (by kernel_rfl), rfl⟩
      by_cases h40 : k < 40
      case neg =>
        have hlen' : (k : Int) < (Z.length : Int) := by omega
        have h40' : decide ((k : Int) < 40) = false := by simp; omega
        go_wp2_with fail
        refine Met.intro ?_
        go_step
        exact ⟨s, d0, d1, g0, g1, ⟨HTK.out.more hk, HBOX.out⟩, _, _, _, _, _, _, _, _, _, _, _, _, _, _, _, _, _, _, _, _, _, _, _, _, _, _, _, _, (by kernel_rfl), rfl⟩
      have hlen' : (k : Int) < (Z.length : Int) := by omega
      have h40' : (k : Int) < 40 := by omega
      obtain ⟨b, off, rfl, hlt, hc⟩ := HC.out (by rintro rfl; simp at hlen)
      obtain ⟨x, hx, hI⟩ := hc k hlen
      clear hc
      generalize Z.getD k [] = r at *
      obtain ⟨bdr, A', cap', rfl, hle', hm', hcr⟩ := hI
      have HX := Lib.hid hx
      have HR := Lib.hid hcr
      have HBD := Lib.hid (ith_bounds bdr)
      unfold maxLen at hm'
      clear hx hcr bdr
      have hs : Since w wr := HBOX.out.2.since
      obtain ⟨wo, rfl⟩ : ∃ wo : World, wo = wr := ⟨_, rfl⟩
      repeat ((fail_if_success (with_reducible refine stop_at 18 ?_)); first | fail | go_values | go_skip | go_guarded | go_step | go_upon | go_back | go_simp)
      refine wp_cut (RC w n (some ⟨b, off, none⟩) A2 Z.length cap T.length cap2 g gw gg k wo.heap.size wo [ith r 0, ith r 1, ith r 2]) ?_ ?_
      rotate_left
      next =>
        as_aux_lemma =>
          intro _ _ _ _
          go_wp2_with fail
          refine wp_loop (RCL w n (some ⟨b, off, none⟩) A2 Z.length cap T.length cap2 g gw gg k wo.heap.size wo r) RCM ?_ ?_
          next => exact ⟨0, ⟨by omega, by omega, BlockIs.fresh _ _ _, (by refine Since.out ?_; repeat (first | with_reducible assumption | with_reducible exact Since.refl _ | with_reducible refine Since.later ?_ (by with_reducible assumption) | with_reducible refine Since.only ?_ (by with_reducible assumption) (by first | assumption | omega | (simp; done) | (simp; omega)) | with_reducible refine Since.alloc ?_ _ | with_reducible refine Since.drewN ?_ _ | with_reducible refine Since.drew ?_ | with_reducible refine Since.set ?_ (by first | assumption | omega | (simp; done) | (simp; omega)) _))⟩, _, _, _, _, _, _, _, _, _, _, _, _, _, _, _, _, _, _, _, _, _, _, _, _, _, (by kernel_rfl), rfl⟩
          next =>
            intro a' wr hinv
            obtain ⟨j, ⟨hj2, hjr, hB, hs2⟩, t3, t4, t5, t6, t7, t8, t9, t10, t11, t12, t13, t15, t21, t22, t23, t24, t25, t26, t27, t28, t29, t30, t31, t32, U, hU, rfl⟩ := hinv
            obtain ⟨u, rfl⟩ := growTail hU; clear hU
            have cx : wr.cell? ⟨b, off + k, none⟩ = some (.slice A' r.length cap') := hs2.cell (Nat.lt_of_lt_of_le hlt hs.le) (hs.cell hlt HX.out)
            by_cases hjl : j < r.length
            case neg =>
              have hjl' : decide ((j : Int) < (r.length : Int)) = false := by simp; omega
              have HB := Lib.hid (vv_end3 (Or.inl (by omega : r.length ≤ j)) ▸ hB)
              clear hB
              go_wp2_with fail
              refine Met.intro ?_
              go_step
              exact ⟨⟨HB.out, hs2⟩, _, _, _, _, _, _, _, _, _, _, _, _, _, _, _, _, _, _, _, _, _, _, _, _, _, _, (by kernel_rfl), rfl⟩
            by_cases hj2' : j < 3
            case neg =>
              have hj3 : decide ((j : Int) < 3) = false := by simp; omega
              have hjl' : (j : Int) < (r.length : Int) := by omega
              have HB := Lib.hid (vv_end3 (r := r) (Or.inr (by omega : 3 ≤ j)) ▸ hB)
              clear hB
              go_wp2_with fail
              refine Met.intro ?_
              go_step
              exact ⟨⟨HB.out, hs2⟩, _, _, _, _, _, _, _, _, _, _, _, _, _, _, _, _, _, _, _, _, _, _, _, _, _, _, (by kernel_rfl), rfl⟩
            have hjl' : (j : Int) < (r.length : Int) := by omega
            have hj3 : (j : Int) < 3 := by omega
            obtain ⟨b2, off2, rfl, hlt2, hc2⟩ := HR.out (by rintro rfl; simp at hjl)
            obtain ⟨y, hy⟩ : ∃ y, ith r j = y := ⟨_, rfl⟩
            have cj : wr.cell? ⟨b2, off2 + j, none⟩ = some (.int .i64 y) := hy ▸ hs2.cell (Nat.lt_of_lt_of_le hlt2 hs.le) (hs.cell hlt2 (hc2 j hjl))
            have fj := hB.free
            have ij : wr.cell? ⟨wo.heap.size, j, none⟩ = some (.int .i64 0) := (hB.cell j).trans (vv_next3 r hj2').1
            have HB := Lib.hid (hy ▸ (vv_next3 r hj2').2 ▸ hB.put j (.int .i64 (ith r j)))
            clear hc2 hB hy
            go_wp2_with fail
            refine ⟨⟨j + 1, ⟨by omega, by omega, HB.out, (by refine Since.out ?_; repeat (first | with_reducible assumption | with_reducible exact Since.refl _ | with_reducible refine Since.later ?_ (by with_reducible assumption) | with_reducible refine Since.only ?_ (by with_reducible assumption) (by first | assumption | omega | (simp; done) | (simp; omega)) | with_reducible refine Since.alloc ?_ _ | with_reducible refine Since.drewN ?_ _ | with_reducible refine Since.drew ?_ | with_reducible refine Since.set ?_ (by first | assumption | omega | (simp; done) | (simp; omega)) _))⟩, _, _, _, _, _, _, _, _, _, _, _, _, _, _, _, _, _, _, _, _, _, _, _, _, _, (by kernel_rfl), rfl⟩, ?_⟩
            simp [RCM, intOf]
            omega
      intro a' wv hinv
      obtain ⟨⟨hBv, hs2⟩, t3, t4, t5, t6, t7, t8, t9, t10, t11, t12, t13, t15, t20, t21, t22, t23, t24, t25, t26, t27, t28, t29, t30, t31, t32, U, hU, rfl⟩ := hinv
      obtain ⟨u, rfl⟩ := growTail hU; clear hU
      simp only [List.map_cons, List.map_nil] at hBv
      have HWB : Hid (Own w [] wv [talkT g s, Thing.block gw 58 #[.string d0, .string d1], Thing.block gg 58 #[.string g0, .string g1], Thing.block wo.heap.size 59 #[.int .i64 (ith r 0), .int .i64 (ith r 1), .int .i64 (ith r 2)]]) := Lib.hid (HBOX.out.2.add hs2 (S := [wo.heap.size]) (t := Thing.block wo.heap.size 59 #[.int .i64 (ith r 0), .int .i64 (ith r 1), .int .i64 (ith r 2)]) ⟨hBv, rfl⟩ (by simp))
      have HST := Lib.hid HBOX.out.1
      have bx1 := HBD.out 1
      have bx2 := HBD.out 2
      generalize ith r 0 = x0 at *
      generalize ith r 1 = x1 at *
      generalize ith r 2 = x2 at *
      clear hBv hs hs2 HX HR HBOX HBD
      generalize wo.heap.size = gv at *
      repeat ((fail_if_success (with_reducible refine stop_at 23 ?_)); first | fail | go_values | go_skip | go_guarded | go_step | go_upon | go_back | go_simp)
      refine wp_cut (DC w n (some ⟨b, off, none⟩) A2 Z.length cap T.length cap2 g gw gg k gv wv) ?_ ?_
      rotate_left
      next =>
        as_aux_lemma =>
          intro _ _ _ _
          by_cases hkT : k < T.length
          · have hkT' : (k : Int) < (T.length : Int) := by omega
            obtain ⟨b2, off2, rfl, hlt2, hc2⟩ := HC2.out (by rintro rfl; simp at hkT)
            have ct : wv.cell? ⟨b2, off2 + k, none⟩ = some (.string (sth T k)) := HWB.out.since.cell hlt2 (hc2 k hkT)
            have hsz := HS.out k
            clear hc2
            generalize sth T k = d at *
            go_wp2_with fail
            refine Met.intro ?_
            go_step
            exact ⟨d, ⟨rfl, by omega⟩, _, _, _, _, _, _, _, _, _, _, _, _, _, _, _, _, _, _, _, _, _, _, _, _, _, (by kernel_rfl), rfl⟩
          · have hkT' : decide ((k : Int) < (T.length : Int)) = false := by simp; omega
            go_wp2_with fail
            refine Met.intro ?_
            go_step
            exact ⟨⟨#[]⟩, ⟨rfl, by show 0 ≤ _; omega⟩, _, _, _, _, _, _, _, _, _, _, _, _, _, _, _, _, _, _, _, _, _, _, _, _, _, (by kernel_rfl), rfl⟩
      intro a' wv' hinv
      obtain ⟨d, ⟨rfl, hsz⟩, t3, t4, t5, t6, t7, t8, t9, t10, t11, t12, t13, t15, t20, t22, t23, t24, t25, t26, t27, t28, t29, t30, t31, t32, U, hU, rfl⟩ := hinv
      obtain ⟨u, rfl⟩ := growTail hU; clear hU
      have cv0 : wv.cell? ⟨gv, 0, none⟩ = some (.int .i64 x0) := (HWB.out.blk 3 rfl).cell 0
      have cv1 : wv.cell? ⟨gv, 1, none⟩ = some (.int .i64 x1) := (HWB.out.blk 3 rfl).cell 1
      have cv2 : wv.cell? ⟨gv, 2, none⟩ = some (.int .i64 x2) := (HWB.out.blk 3 rfl).cell 2
      have lv : gv < wv.heap.size := (HWB.out.blk 3 rfl).lt
      go_upto_region 25 with (fail)
      refine wp_cut (WC w n (some ⟨b, off, none⟩) A2 Z.length cap T.length cap2 g gw gg k gv d x1 wv) ?_ ?_
      rotate_left
      next =>
        as_aux_lemma =>
          intro _ _ _ _
          by_cases h0 : x1 = 0
          · have h0' : (x1 == 0) = true := by simpa using h0
            have hwb := Lib.hid (whoB_iff.2 (Or.inl h0))
            clear h0
            go_wp2_with fail
            refine Met.intro ?_
            go_step
            unfold WC
            rw [hwb.out]
            exact ⟨rfl, _, _, _, _, _, _, _, _, _, _, _, _, _, _, _, _, _, _, _, _, _, _, _, _, (by kernel_rfl), rfl⟩
          · have h0' : (x1 == 0) = false := by simpa using h0
            by_cases h1 : x1 = 1
            · have h1' : (x1 == 1) = true := by simpa using h1
              have hwb := Lib.hid (whoB_iff.2 (Or.inr h1))
              clear h0 h1
              go_wp2_with fail
              refine Met.intro ?_
              go_step
              unfold WC
              rw [hwb.out]
              exact ⟨rfl, _, _, _, _, _, _, _, _, _, _, _, _, _, _, _, _, _, _, _, _, _, _, _, _, (by kernel_rfl), rfl⟩
            · have h1' : (x1 == 1) = false := by simpa using h1
              have hwb : Hid (whoB x1 = false) := Lib.hid (by
                cases hw : whoB x1 with
                | false => rfl
                | true => rcases whoB_iff.1 hw with h | h <;> contradiction)
              clear h0 h1
              go_wp2_with fail
              refine Met.intro ?_
              go_step
              unfold WC
              rw [hwb.out]
              exact ⟨rfl, _, _, _, _, _, _, _, _, _, _, _, _, _, _, _, _, _, _, _, _, _, _, _, _, (by kernel_rfl), rfl⟩
      intro a' wv' hinv
      obtain ⟨rfl, t3, t4, t5, t6, t7, t8, t9, t10, t11, t12, t13, t15, t20, t23, t24, t25, t26, t27, t28, t29, t30, t31, t32, U, hU, rfl⟩ := hinv
      obtain ⟨u, rfl⟩ := growTail hU; clear hU
      repeat ((fail_if_success (with_reducible refine stop_at 26 ?_)); first | fail | go_values | go_skip | go_guarded | go_step | go_upon | go_back | go_simp)
      refine wp_cut (SC w n (some ⟨b, off, none⟩) A2 Z.length cap T.length cap2 g gw gg k) ?_ ?_
      rotate_left
      next =>
        intro _ _ _ _
        by_cases h0 : x0 = 0
        case pos =>
          subst h0
          as_aux_lemma =>
            obtain ⟨S, hS, up⟩ := HWB.out.at_ 0 rfl
            go_wp2_with fail
            refine (twrite g s x1 d _ S hS hsz).mono ?_
            rintro e w7 ⟨rfl, hl⟩
            have HW7 := Lib.hid (up _ _ hl)
            clear hl hS up
            by_cases hE : s.writeE x1 d = 0
            case neg =>
              have HB := Lib.hid (wr_bad HST.out HTK.out hE)
              rw [errV_pos hE]
              clear hE cv0 cv1 cv2 lv
              go_wp2_with fail
              refine Met.intro ?_
              go_step
              exact ⟨_, _, _, _, _, ⟨HB.out.1, HB.out.2, HW7.out.take 3⟩, _, _, _, _, _, _, _, _, _, _, _, _, _, _, _, _, _, _, _, _, _, _, _, _, _, _, _, (by kernel_rfl), rfl⟩
            rcases wr_who hE with rfl | rfl
            · have HB := Lib.hid (wr_0 HST.out HTK.out hE)
              rw [hE, errV_zero]
              have hd0 := HB.out.2.2.1
              have hd1 := HB.out.2.2.2
              have hwb : whoB 0 = true := rfl
              rw [hwb]
              clear hE cv0 cv1 cv2 lv hwb
              have e0 : w7.cell? ⟨gv, 0, none⟩ = some (.int .i64 0) := (HW7.out.blk 3 rfl).cell 0
              have e1 : w7.cell? ⟨gv, 1, none⟩ = some (.int .i64 0) := (HW7.out.blk 3 rfl).cell 1
              have lv7 : gv < w7.heap.size := (HW7.out.blk 3 rfl).lt
              have b0 : w7.cell? ⟨gw, 0, none⟩ = some (.string d0) := (HW7.out.blk 1 rfl).cell 0
              have b1 : w7.cell? ⟨gw, 1, none⟩ = some (.string d1) := (HW7.out.blk 1 rfl).cell 1
              have bf := (HW7.out.blk 1 rfl).free
              have bl := (HW7.out.blk 1 rfl).lt
              go_wp2_with fail
              go_region
              all_goals
                go_wp2_with fail
                refine Met.intro ?_
                go_step
                exact ⟨_, _, _, _, _, ⟨HB.out.1, HB.out.2.1, (by first | exact (HW7.out.put 1 rfl 0 _).take 3 | exact ((HW7.out.drew).put 1 rfl 0 _).take 3 | exact ((HW7.out.drewN _).put 1 rfl 0 _).take 3)⟩, _, _, _, _, _, _, _, _, _, _, _, _, _, _, _, _, _, _, _, _, _, _, _, _, _, _, _, (by kernel_rfl), rfl⟩
            · have HB := Lib.hid (wr_1 HST.out HTK.out hE)
              rw [hE, errV_zero]
              have hd0 := HB.out.2.2.1
              have hd1 := HB.out.2.2.2
              have hwb : whoB 1 = true := rfl
              rw [hwb]
              clear hE cv0 cv1 cv2 lv hwb
              have e0 : w7.cell? ⟨gv, 0, none⟩ = some (.int .i64 0) := (HW7.out.blk 3 rfl).cell 0
              have e1 : w7.cell? ⟨gv, 1, none⟩ = some (.int .i64 1) := (HW7.out.blk 3 rfl).cell 1
              have lv7 : gv < w7.heap.size := (HW7.out.blk 3 rfl).lt
              have b0 : w7.cell? ⟨gw, 0, none⟩ = some (.string d0) := (HW7.out.blk 1 rfl).cell 0
              have b1 : w7.cell? ⟨gw, 1, none⟩ = some (.string d1) := (HW7.out.blk 1 rfl).cell 1
              have bf := (HW7.out.blk 1 rfl).free
              have bl := (HW7.out.blk 1 rfl).lt
              go_wp2_with fail
              go_region
              all_goals
                go_wp2_with fail
                refine Met.intro ?_
                go_step
                exact ⟨_, _, _, _, _, ⟨HB.out.1, HB.out.2.1, (by first | exact (HW7.out.put 1 rfl 1 _).take 3 | exact ((HW7.out.drew).put 1 rfl 1 _).take 3 | exact ((HW7.out.drewN _).put 1 rfl 1 _).take 3)⟩, _, _, _, _, _, _, _, _, _, _, _, _, _, _, _, _, _, _, _, _, _, _, _, _, _, _, _, (by kernel_rfl), rfl⟩
        by_cases h1 : x0 = 1
        case pos =>
          subst h1
          as_aux_lemma =>
            obtain ⟨S, hS, up⟩ := HWB.out.at_ 0 rfl
            go_wp2_with fail
            refine (tread g s x1 x2 _ S hS).mono ?_
            rintro e w7 ⟨rfl, hl⟩
            have HW7 := Lib.hid (up _ _ hl)
            clear hl hS up
            by_cases hE : TkS.readE x1 x2 = 0
            case neg =>
              have HB := Lib.hid (rd_bad HST.out HTK.out hE)
              rw [errV_pos hE]
              clear hE cv0 cv1 cv2 lv
              go_wp2_with fail
              refine Met.intro ?_
              go_step
              exact ⟨_, _, _, _, _, ⟨HB.out.1, HB.out.2, HW7.out.take 3⟩, _, _, _, _, _, _, _, _, _, _, _, _, _, _, _, _, _, _, _, _, _, _, _, _, _, _, _, (by kernel_rfl), rfl⟩
            rcases rd_who hE with rfl | rfl
            · have HB := Lib.hid (rd_0 HST.out HTK.out x2)
              rw [hE, errV_zero]
              have hd0 := HB.out.2.2.1
              have hd1 := HB.out.2.2.2
              have hwb : whoB 0 = true := rfl
              rw [hwb]
              generalize s.readS 0 x2 = rs at *
              clear hE cv0 cv1 cv2 lv hwb
              have e0 : w7.cell? ⟨gv, 0, none⟩ = some (.int .i64 1) := (HW7.out.blk 3 rfl).cell 0
              have e1 : w7.cell? ⟨gv, 1, none⟩ = some (.int .i64 0) := (HW7.out.blk 3 rfl).cell 1
              have lv7 : gv < w7.heap.size := (HW7.out.blk 3 rfl).lt
              have b0 : w7.cell? ⟨gg, 0, none⟩ = some (.string g0) := (HW7.out.blk 2 rfl).cell 0
              have b1 : w7.cell? ⟨gg, 1, none⟩ = some (.string g1) := (HW7.out.blk 2 rfl).cell 1
              have bf := (HW7.out.blk 2 rfl).free
              have bl := (HW7.out.blk 2 rfl).lt
              go_wp2_with fail
              go_region
              all_goals
                go_wp2_with fail
                refine Met.intro ?_
                go_step
                exact ⟨_, _, _, _, _, ⟨HB.out.1, HB.out.2.1, (by first | exact (HW7.out.put 2 rfl 0 _).take 3 | exact ((HW7.out.drew).put 2 rfl 0 _).take 3 | exact ((HW7.out.drewN _).put 2 rfl 0 _).take 3)⟩, _, _, _, _, _, _, _, _, _, _, _, _, _, _, _, _, _, _, _, _, _, _, _, _, _, _, _, (by kernel_rfl), rfl⟩
            · have HB := Lib.hid (rd_1 HST.out HTK.out x2)
              rw [hE, errV_zero]
              have hd0 := HB.out.2.2.1
              have hd1 := HB.out.2.2.2
              have hwb : whoB 1 = true := rfl
              rw [hwb]
              generalize s.readS 1 x2 = rs at *
              clear hE cv0 cv1 cv2 lv hwb
              have e0 : w7.cell? ⟨gv, 0, none⟩ = some (.int .i64 1) := (HW7.out.blk 3 rfl).cell 0
              have e1 : w7.cell? ⟨gv, 1, none⟩ = some (.int .i64 1) := (HW7.out.blk 3 rfl).cell 1
              have lv7 : gv < w7.heap.size := (HW7.out.blk 3 rfl).lt
              have b0 : w7.cell? ⟨gg, 0, none⟩ = some (.string g0) := (HW7.out.blk 2 rfl).cell 0
              have b1 : w7.cell? ⟨gg, 1, none⟩ = some (.string g1) := (HW7.out.blk 2 rfl).cell 1
              have bf := (HW7.out.blk 2 rfl).free
              have bl := (HW7.out.blk 2 rfl).lt
              go_wp2_with fail
              go_region
              all_goals
                go_wp2_with fail
                refine Met.intro ?_
                go_step
                exact ⟨_, _, _, _, _, ⟨HB.out.1, HB.out.2.1, (by first | exact (HW7.out.put 2 rfl 1 _).take 3 | exact ((HW7.out.drew).put 2 rfl 1 _).take 3 | exact ((HW7.out.drewN _).put 2 rfl 1 _).take 3)⟩, _, _, _, _, _, _, _, _, _, _, _, _, _, _, _, _, _, _, _, _, _, _, _, _, _, _, _, (by kernel_rfl), rfl⟩
        by_cases h2 : x0 = 2
        case pos =>
          subst h2
          as_aux_lemma =>
            obtain ⟨S, hS, up⟩ := HWB.out.at_ 0 rfl
            have HB := Lib.hid (HTK.out.send (by omega) x1)
            go_wp2_with fail
            refine (tsend g s x1 _ S hS (HK.out.later HWB.out.since) (few_made HTK.out (by omega) x1)).mono ?_
            rintro e w7 ⟨rfl, hl⟩
            have HW7 := Lib.hid (up _ _ hl)
            clear hl hS up cv0 cv1 cv2 lv
            go_wp2_with fail
            refine Met.intro ?_
            go_step
            exact ⟨_, _, _, _, _, ⟨HB.out.1, HST.out.calm HB.out.2, HW7.out.take 3⟩, _, _, _, _, _, _, _, _, _, _, _, _, _, _, _, _, _, _, _, _, _, _, _, _, _, _, _, (by kernel_rfl), rfl⟩
        by_cases h3 : x0 = 3
        case pos =>
          subst h3
          as_aux_lemma =>
            obtain ⟨S, hS, up⟩ := HWB.out.at_ 0 rfl
            have HB := Lib.hid (HTK.out.send (by omega) x1)
            go_wp2_with fail
            refine (tsend g s x1 _ S hS (HK.out.later HWB.out.since) (few_made HTK.out (by omega) x1)).mono ?_
            rintro e w7 ⟨rfl, hl⟩
            have HW7 := Lib.hid (up _ _ hl)
            clear hl hS up cv0 cv1 cv2 lv
            go_wp2_with fail
            refine Met.intro ?_
            go_step
            exact ⟨_, _, _, _, _, ⟨HB.out.1, HST.out.calm HB.out.2, HW7.out.take 3⟩, _, _, _, _, _, _, _, _, _, _, _, _, _, _, _, _, _, _, _, _, _, _, _, _, _, _, _, (by kernel_rfl), rfl⟩
        by_cases h4 : x0 = 4
        case pos =>
          subst h4
          as_aux_lemma =>
            obtain ⟨S, hS, up⟩ := HWB.out.at_ 0 rfl
            have HB := Lib.hid (HTK.out.come (by omega) x1)
            go_wp2_with fail
            refine (tcome g s x1 _ S hS (tabs HK.out HCT.out up) (by have := HTK.out.m0; omega) (by have := HTK.out.m1; omega)).mono ?_
            rintro e w7 ⟨rfl, hl⟩
            have HW7 := Lib.hid (up _ _ hl)
            clear hl hS up cv0 cv1 cv2 lv
            go_wp2_with fail
            refine Met.intro ?_
            go_step
            exact ⟨_, _, _, _, _, ⟨HB.out.1, HST.out.calm HB.out.2, HW7.out.take 3⟩, _, _, _, _, _, _, _, _, _, _, _, _, _, _, _, _, _, _, _, _, _, _, _, _, _, _, _, (by kernel_rfl), rfl⟩
        by_cases h5 : x0 = 5
        case pos =>
          subst h5
          as_aux_lemma =>
            obtain ⟨S, hS, up⟩ := HWB.out.at_ 0 rfl
            have HB := Lib.hid (HTK.out.come (by omega) x1)
            go_wp2_with fail
            refine (tcome g s x1 _ S hS (tabs HK.out HCT.out up) (by have := HTK.out.m0; omega) (by have := HTK.out.m1; omega)).mono ?_
            rintro e w7 ⟨rfl, hl⟩
            have HW7 := Lib.hid (up _ _ hl)
            clear hl hS up cv0 cv1 cv2 lv
            go_wp2_with fail
            refine Met.intro ?_
            go_step
            exact ⟨_, _, _, _, _, ⟨HB.out.1, HST.out.calm HB.out.2, HW7.out.take 3⟩, _, _, _, _, _, _, _, _, _, _, _, _, _, _, _, _, _, _, _, _, _, _, _, _, _, _, _, (by kernel_rfl), rfl⟩
        by_cases h6 : x0 = 6
        case pos =>
          subst h6
          as_aux_lemma =>
            obtain ⟨S, hS, up⟩ := HWB.out.at_ 0 rfl
            have HB := Lib.hid (HTK.out.give x1)
            go_wp2_with fail
            refine (tklose g s x1 _ S hS).mono ?_
            rintro e w7 ⟨rfl, hl⟩
            have HW7 := Lib.hid (up _ _ hl)
            clear hl hS up cv0 cv1 cv2 lv
            go_wp2_with fail
            refine Met.intro ?_
            go_step
            exact ⟨_, _, _, _, _, ⟨HB.out.1, HST.out.calm HB.out.2, HW7.out.take 3⟩, _, _, _, _, _, _, _, _, _, _, _, _, _, _, _, _, _, _, _, _, _, _, _, _, _, _, _, (by kernel_rfl), rfl⟩
        have h0' : (x0 == 0) = false := by simpa using h0
        have h1' : (x0 == 1) = false := by simpa using h1
        have h2' : (x0 == 2) = false := by simpa using h2
        have h3' : (x0 == 3) = false := by simpa using h3
        have h4' : (x0 == 4) = false := by simpa using h4
        have h5' : (x0 == 5) = false := by simpa using h5
        have h6' : (x0 == 6) = false := by simpa using h6
        clear h0 h1 h2 h3 h4 h5 h6
        as_aux_lemma =>
          obtain ⟨S, hS, up⟩ := HWB.out.at_ 0 rfl
          have HB := Lib.hid (HTK.out.twice x1)
          go_wp2_with fail
          refine (tktwice g s x1 _ S hS).mono ?_
          rintro e w7 ⟨rfl, hl⟩
          have HW7 := Lib.hid (up _ _ hl)
          clear hl hS up cv0 cv1 cv2 lv
          go_wp2_with fail
          refine Met.intro ?_
          go_step
          exact ⟨_, _, _, _, _, ⟨HB.out.1, HST.out.calm HB.out.2, HW7.out.take 3⟩, _, _, _, _, _, _, _, _, _, _, _, _, _, _, _, _, _, _, _, _, _, _, _, _, _, _, _, (by kernel_rfl), rfl⟩
      intro a' wc hinv
      obtain ⟨s2, d0, d1, g0, g1, ⟨ht, hbox⟩, t3, t4, t5, t6, t7, t8, t9, t10, t11, t12, t13, t15, t19, t20, t21, t22, t23, t24, t25, t26, t27, t28, t29, t30, t31, t32, U, hU, rfl⟩ := hinv
      obtain ⟨u, rfl⟩ := growTail hU; clear hU
      have HTK2 := Lib.hid ht
      have HBOX := Lib.hid hbox
      clear ht hbox HWB HST HTK cv0 cv1 cv2 lv
      have HTX := Lib.hid (st_text HBOX.out.1 HTK2.out)
      have q0 : wc.cell? ⟨gw, 0, none⟩ = some (.string d0) := (HBOX.out.2.blk 1 rfl).cell 0
      have q1 : wc.cell? ⟨gw, 1, none⟩ = some (.string d1) := (HBOX.out.2.blk 1 rfl).cell 1
      have q2 : wc.cell? ⟨gg, 0, none⟩ = some (.string g0) := (HBOX.out.2.blk 2 rfl).cell 0
      have q3 : wc.cell? ⟨gg, 1, none⟩ = some (.string g1) := (HBOX.out.2.blk 2 rfl).cell 1
      have lw := (HBOX.out.2.blk 1 rfl).lt
      have lg := (HBOX.out.2.blk 2 rfl).lt
      have t0 : decide ((d1.size : Int) < (g0.size : Int)) = false := by have := HTX.out.1.1; simp; omega
      have t1 : decide ((d0.size : Int) < (g1.size : Int)) = false := by have := HTX.out.2.1; simp; omega
      have t0n : ¬ d1.size < g0.size := by have := HTX.out.1.1; omega
      have t1n : ¬ d0.size < g1.size := by have := HTX.out.2.1; omega
      have t2 : (g0.size : Int) ≤ (d1.size : Int) := by have := HTX.out.1.1; omega
      have t3 : (g1.size : Int) ≤ (d0.size : Int) := by have := HTX.out.2.1; omega
      have hx0 : d1.extract 0 g0.size = g0 := HTX.out.1.2
      have hx1 : d0.extract 0 g1.size = g1 := HTX.out.2.2
      go_wp2_with fail
      refine wp_loop_rounds 3 ?_
      rw [rounds_succ]
      go_upto_region 47 with fail
      go_quiet (fail)
      go_wp2_with fail
      rw [rounds_succ]
      go_upto_region 47 with fail
      go_quiet (fail)
      go_wp2_with fail
      rw [rounds_succ]
      go_wp2_with fail
      refine ⟨⟨k + 1, s2, d0, d1, g0, g1, ⟨by omega, HTK2.out, ⟨HBOX.out.1, HBOX.out.2.drewN _⟩⟩, _, _, _, _, _, _, _, _, _, _, _, _, _, _, _, _, _, _, _, _, _, _, _, _, _, _, _, (by kernel_rfl), rfl⟩, ?_⟩
      simp [LM, intOf]
      omega
  as_aux_lemma =>
    intro a' wz hinv
    obtain ⟨s, d0, d1, g0, g1, ⟨ht, hbox⟩, t3, t4, t5, t6, t7, t8, t9, t10, t11, t12, t13, t15, t18, t19, t20, t21, t22, t23, t24, t25, t26, t27, t28, t29, t30, t31, t32, U, hU, rfl⟩ := hinv
    obtain ⟨u, rfl⟩ := growTail hU; clear hU
    go_wp2_with fail
    refine wp_loop_ghost (LL w n A A2 Z.length cap T.length cap2 g gw gg) s.L.length ⟨s, d0, d1, g0, g1, ⟨rfl, ht.more (by omega), hbox⟩, _, _, _, _, _, _, _, _, _, _, _, _, _, _, _, _, _, _, _, _, _, _, _, _, _, _, _, _, (by kernel_rfl), rfl⟩ ?_
    clear ht hbox HBX HT0
    clear s d0 d1 g0 g1
    intro j a' wr hinv
    obtain ⟨s, d0, d1, g0, g1, ⟨hj, ht, hbox⟩, t3, t4, t5, t6, t7, t8, t9, t10, t11, t12, t13, t15, t18, t19, t20, t21, t22, t23, t24, t25, t26, t27, t28, t29, t30, t31, t32, U, hU, rfl⟩ := hinv
    obtain ⟨u, rfl⟩ := growTail hU; clear hU
    have HTK := Lib.hid ht
    have HBOX := Lib.hid hbox
    have HJ := Lib.hid hj
    clear ht hbox hj
    obtain ⟨S, hS, up⟩ := HBOX.out.2.at_ 0 rfl
    have hcn := Lib.hid (tcount g s wr S hS)
    by_cases h0 : 0 < s.L.length
    case pos =>
      have h0' : (0 : Int) < (s.L.length : Int) := by omega
      obtain ⟨v1, v2⟩ := give0 h0
      have HV := Lib.hid v2
      have HLO := Lib.hid (tklose g s 0 wr S hS)
      rw [v1, errV_zero] at HLO
      clear h0 v1 v2 hS
      go_wp2_with fail
      refine hcn.out.mono ?_
      rintro e w7 ⟨rfl, rfl⟩
      go_wp2_with fail
      refine HLO.out.mono ?_
      rintro e w7 ⟨rfl, hl⟩
      have HW7 := Lib.hid (up _ _ hl)
      clear hl up hcn HLO
      have HGV := Lib.hid (HTK.out.give 0)
      go_wp2_with fail
      exact ⟨(giveL s.L 0).length, by have := HV.out; have := HJ.out; omega, _, d0, d1, g0, g1, ⟨rfl, ⟨HGV.out.1.pr, Nat.le_trans HTK.out.m0 (Nat.le_refl _), HTK.out.m1, HGV.out.1.f1, HGV.out.1.f0, HGV.out.1.wh⟩, ⟨HBOX.out.1.calm HGV.out.2, HW7.out⟩⟩, _, _, _, _, _, _, _, _, _, _, _, _, _, _, _, _, _, _, _, _, _, _, _, _, _, _, _, _, (by kernel_rfl), rfl⟩
    have hz : s.L.length = 0 := by omega
    have HNL : Hid (s.L = []) := Lib.hid (List.length_eq_zero_iff.1 hz)
    rw [hz] at hcn
    have HG0 : Hid (Good_ s 0) := Lib.hid (Good_.start HTK.out (by omega) HNL.out)
    clear h0 hz HTK hS up
    go_wp2_with fail
    refine hcn.out.mono ?_
    rintro e w7 ⟨rfl, rfl⟩
    clear hcn
    go_wp2_with fail
    refine wp_loop (LG w n A A2 Z.length cap T.length cap2 g gw gg) LGM ?_ ?_
    next => exact ⟨0, s, d0, d1, g0, g1, ⟨by omega, HG0.out, HBOX.out⟩, _, _, _, _, _, _, _, _, _, _, _, _, _, _, _, _, _, _, _, _, _, _, _, _, _, _, _, (by kernel_rfl), rfl⟩
    next =>
      clear HG0 HBOX HNL
      clear HJ
      clear s d0 d1 g0 g1
      intro a' wr2 hinv
      obtain ⟨i, s, d0, d1, g0, g1, ⟨hi, hg, hbox⟩, t3, t4, t5, t6, t7, t8, t9, t10, t11, t12, t13, t15, t18, t19, t20, t21, t22, t23, t24, t25, t26, t28, t29, t30, t31, t32, U, hU, rfl⟩ := hinv
      obtain ⟨u, rfl⟩ := growTail hU; clear hU
      have HG := Lib.hid hg
      have HBOX := Lib.hid hbox
      clear hg hbox
      by_cases h130 : i < 130
      case neg =>
        have h130' : decide ((i : Int) < 130) = false := by simp; omega
        obtain ⟨al0, al1⟩ := HG.out.all (by omega) (by omega)
        obtain ⟨y0, y1, y2, y3⟩ := HBOX.out.1
        have z0 : g0 = d1 := by rw [← y2, al0, y1]
        have z1 : g1 = d0 := by rw [← y3, al1, y0]
        subst z0 z1
        have q0 : wr2.cell? ⟨gw, 0, none⟩ = some (.string g1) := (HBOX.out.2.blk 1 rfl).cell 0
        have q1 : wr2.cell? ⟨gw, 1, none⟩ = some (.string g0) := (HBOX.out.2.blk 1 rfl).cell 1
        have q2 : wr2.cell? ⟨gg, 0, none⟩ = some (.string g0) := (HBOX.out.2.blk 2 rfl).cell 0
        have q3 : wr2.cell? ⟨gg, 1, none⟩ = some (.string g1) := (HBOX.out.2.blk 2 rfl).cell 1
        have lw := (HBOX.out.2.blk 1 rfl).lt
        have lg := (HBOX.out.2.blk 2 rfl).lt
        clear al0 al1 y0 y1 y2 y3 h130
        go_wp2_with fail
        go_ret
        exact ⟨by first | rfl | simp, HBOX.out.2.since⟩
      have h130' : (i : Int) < 130 := by omega
      go_wp2_with fail
      refine wp_loop (LK w n A A2 Z.length cap T.length cap2 g gw gg i) LKM ?_ ?_
      next => exact ⟨0, s, d0, d1, g0, g1, ⟨by omega, HG.out, HBOX.out⟩, _, _, _, _, _, _, _, _, _, _, _, _, _, _, _, _, _, _, _, _, _, _, _, _, _, _, (by kernel_rfl), rfl⟩
      next =>
        clear HG HBOX
        clear s d0 d1 g0 g1
        intro a' wr3 hinv
        obtain ⟨k, s, d0, d1, g0, g1, ⟨hk, hg, hbox⟩, t3, t4, t5, t6, t7, t8, t9, t10, t11, t12, t13, t15, t18, t19, t20, t21, t22, t23, t24, t25, t26, t29, t30, t31, t32, U, hU, rfl⟩ := hinv
        obtain ⟨u, rfl⟩ := growTail hU; clear hU
        have HG := Lib.hid hg
        have HBOX := Lib.hid hbox
        clear hg hbox
        by_cases h2 : k < 2
        case neg =>
          have h2' : decide ((k : Int) < 2) = false := by simp; omega
          have HG2 : Hid (Good_ s (2 * (i + 1))) := Lib.hid (by have := HG.out; rw [show 2 * i + k = 2 * (i + 1) by omega] at this; exact this)
          clear h2 HG
          go_wp2_with fail
          refine ⟨⟨i + 1, s, d0, d1, g0, g1, ⟨by omega, HG2.out, HBOX.out⟩, _, _, _, _, _, _, _, _, _, _, _, _, _, _, _, _, _, _, _, _, _, _, _, _, _, _, _, (by kernel_rfl), rfl⟩, ?_⟩
          simp [LGM, intOf]
          omega
        have h2' : (k : Int) < 2 := by omega
        have HGO := Lib.hid (good_step HBOX.out.1 HG.out (by omega) h130)
        obtain ⟨S, hS, up⟩ := HBOX.out.2.at_ 0 rfl
        go_wp2_with fail
        refine (tsend g s (k : Int) _ S hS (HK.out.later HBOX.out.2.since) HGO.out.m).mono ?_
        rintro e w7 ⟨rfl, hl⟩
        rw [HGO.out.e, errV_zero]
        have HW7 : Hid (Own w [] w7 [talkT g (s.send (k : Int)), Thing.block gw 58 #[.string d0, .string d1], Thing.block gg 58 #[.string g0, .string g1]]) := Lib.hid (up _ _ hl)
        clear hl hS up
        obtain ⟨S, hS, up⟩ := HW7.out.at_ 0 rfl
        go_wp2_with fail
        refine (tcome g (s.send (k : Int)) 0 _ S hS (tabs HK.out HCT.out up) HGO.out.m0 HGO.out.m1).mono ?_
        rintro e w8 ⟨rfl, hl⟩
        have HW8 : Hid (Own w [] w8 [talkT g ((s.send (k : Int)).come 0), Thing.block gw 58 #[.string d0, .string d1], Thing.block gg 58 #[.string g0, .string g1]]) := Lib.hid (up _ _ hl)
        clear hl hS up HW7
        obtain ⟨S, hS, up⟩ := HW8.out.at_ 0 rfl
        go_wp2_with fail
        refine (tread g ((s.send (k : Int)).come 0) (1 - (k : Int)) 60 _ S hS).mono ?_
        rintro e w9 ⟨rfl, hl⟩
        have HW9 : Hid (Own w [] w9 [talkT g (((s.send (k : Int)).come 0).read (1 - (k : Int)) 60), Thing.block gw 58 #[.string d0, .string d1], Thing.block gg 58 #[.string g0, .string g1]]) := Lib.hid (up _ _ hl)
        clear hl hS up HW8
        rcases HGO.out.or_ with h4 | ⟨o1, o2, o3, o4, o5, o6, o7⟩
        · rw [h4, errV_pos (show (4 : Int) ≠ 0 by decide)]
          clear h4
          go_wp2_with (first | (go_at_call 10; refine (same_at 4 (by decide) _ (HE.out.later HW9.out.since)).mono ?_; rintro e3 w10 ⟨rfl, hb10⟩) | fail)
          have HWX := Lib.hid (HW9.out.later hb10)
          go_wp2_with fail
          go_ret
          exact ⟨by first | rfl | simp, HWX.out.since⟩
        · rw [o1, o2, errV_zero]
          have HO3 := Lib.hid o3
          have HO4 := Lib.hid o4
          clear o1 o2 o3 o4
          generalize ((s.send (k : Int)).come 0).readS (1 - (k : Int)) 60 = rs at *
          generalize ((s.send (k : Int)).come 0).read (1 - (k : Int)) 60 = s9 at *
          have q2 : w9.cell? ⟨gg, 0, none⟩ = some (.string g0) := (HW9.out.blk 2 rfl).cell 0
          have q3 : w9.cell? ⟨gg, 1, none⟩ = some (.string g1) := (HW9.out.blk 2 rfl).cell 1
          have lg := (HW9.out.blk 2 rfl).lt
          have fg := (HW9.out.blk 2 rfl).free
          clear HGO
          obtain rfl | rfl : k = 0 ∨ k = 1 := by omega
          · rw [if_neg (by decide), if_neg (by decide)] at HO4
            go_wp2_with fail
            refine ⟨⟨1, s9, d0, d1, g0, g1 ++ rs, ⟨by omega, HO3.out, ⟨HO4.out, HW9.out.put 2 rfl 1 _⟩⟩, _, _, _, _, _, _, _, _, _, _, _, _, _, _, _, _, _, _, _, _, _, _, _, _, _, _, (by kernel_rfl), rfl⟩, ?_⟩
            simp [LKM, intOf]
          · rw [if_pos rfl, if_pos rfl] at HO4
            go_wp2_with fail
            refine ⟨⟨2, s9, d0, d1, g0 ++ rs, g1, ⟨by omega, HO3.out, ⟨HO4.out, HW9.out.put 2 rfl 0 _⟩⟩, _, _, _, _, _, _, _, _, _, _, _, _, _, _, _, _, _, _, _, _, _, _, _, _, _, _, (by kernel_rfl), rfl⟩, ?_⟩
            simp [LKM, intOf]

/-! the row -/
theorem own : ownKnob Tryz.prog.godebug = none := by kernel_rfl
theorem laidOut : laidOutB Tryz.prog = true := by kernel_rfl
set_option maxRecDepth 100000 in
theorem contract (H : Type) (enc : TypeId × Value → H) (W : World) (base : Nat) (args : Array Value) (ds gs : List (DataW H)) (before : List MemPlace)
    (hval : ∀ (j : Nat) t v, Tryz.f4.params[j]? = some t → args[j]? = some v → Value.okWide Tryz.prog W .any base t v)
    (hW : DataW.Whole enc Tryz.prog Tryz.f4.params.toList Rows.talkPrefixSpec.vars false W args.toList ds gs before) (hsz : (DataW.weightsEach Tryz.prog (Tryz.f4.params.toList ++ (OpenSpec.ofChange Rows.talkPrefixSpec).bare.plain.varTypes Tryz.prog) (ds ++ gs)).all (· ≤ reachBytes) = true) (hL : laidMetH Tryz.prog Rows.talkPrefixRow.laid W) :
    Calls Tryz.prog 4 args W fun e W' => ∃ v, e = .returned v ∧ Rows.talkPrefixSpec.post enc Tryz.prog Tryz.f4 false true false false W args v W' := by
  have hW' := hW
  obtain ⟨p, q, hA0, hV, rfl, hfz, hnd⟩ := hW
  have hA : DataW.TrodAll enc Tryz.prog W 0 (fun _ => true) true Tryz.f4.params.toList args.toList ds p := hA0
  rw [Tryz.params4] at hA hval
  obtain ⟨v0, vs0, d0, ds0, p0, q0, hargs, rfl, rfl, h0, r0⟩ := trodAll_cons hA
  obtain ⟨v1, vs1, d1, ds1, p1, q1, rfl, rfl, rfl, h1, r1⟩ := trodAll_cons r0
  obtain ⟨v2, vs2, d2, ds2, p2, q2, rfl, rfl, rfl, h2, r2⟩ := trodAll_cons r1
  obtain ⟨rfl, rfl, rfl⟩ := trodAll_nil r2
  obtain rfl : args = #[v0, v1, v2] := by cases args; simp_all
  obtain ⟨rfl, rfl⟩ := trodVars_none hV
  obtain ⟨a0, rfl, rfl, rfl, w0⟩ := open_int Tryz.underlying3 (hval 0 3 v0 rfl rfl) h0
  obtain ⟨a1, len1, cap1, rfl⟩ := okWide_slice Tryz.underlying23 (hval 1 23 v1 rfl rfl)
  have k1 := h1
  have lt1 : ∀ x ∈ p1, x.block < W.heap.size := by obtain ⟨m, hm⟩ := k1; exact DataW.trod_lt m _ _ _ hm
  obtain ⟨z1, w1⟩ : ∃ zs, IntRowsIn W (.slice a1 len1 cap1) zs := by
    obtain ⟨fuel, hf⟩ := h1
    exact intRowsIn_open Tryz.underlying23 Tryz.underlying22 Tryz.underlying3 (by kernel_rfl) (by kernel_rfl) hf lt1
  obtain ⟨a2, len2, cap2, rfl⟩ := okWide_slice Tryz.underlying24 (hval 2 24 v2 rfl rfl)
  have k2 := h2
  have lt2 : ∀ x ∈ p2, x.block < W.heap.size := by obtain ⟨m, hm⟩ := k2; exact DataW.trod_lt m _ _ _ hm
  obtain ⟨z2, w2⟩ : ∃ zs, StrsInS W (.slice a2 len2 cap2) zs := by
    obtain ⟨fuel, hf⟩ := h2
    exact strsIn_open_sized Tryz.underlying24 Tryz.underlying9 (by kernel_rfl) hf lt2 (fun n hn => of_decide_eq_true (List.all_eq_true.1 hsz n (DataW.weights_mem_each (j := 2) rfl rfl n hn)))
  have lw := laidWalk hL
  refine (walk a0 (.slice a1 len1 cap1) z1 (.slice a2 len2 cap2) z2 W w0 w1 w2 lw).mono fun e W' ⟨he, bel⟩ => ?_
  subst he
  exact ⟨_, rfl, _, _, _, [], _, [], hW', trodAll_mk1 (shut_bool Tryz.underlying4 _), (trodAll_cons_mk (shut_int Tryz.underlying3 w0) (trodAll_cons_mk (Below.trod laidOut (by kernel_rfl) (of_decide_eq_true (by kernel_rfl)) k1 bel lt1) (trodAll_cons_mk (Below.trod laidOut (by kernel_rfl) (of_decide_eq_true (by kernel_rfl)) k2 bel lt2) trodAll_mk0))), rfl, bel.frame _, fun h => by cases h⟩

theorem reads (os : Os) {H : Type} (enc : TypeId × Value → H) : ∃ places, DataW.whole enc Tryz.prog ((laidWorld os).forCall (fun _ _ => 0) ⟨#[], #[.int .i64 0, .slice none 0 0, .slice none 0 0], []⟩).memory Tryz.f4.params.toList Rows.talkPrefixSpec.vars false (#[.int .i64 0, .slice none 0 0, .slice none 0 0] : Array Value).toList 8 = some ([.lit (.int .i64 0), .nil, .nil], [], places) :=
  ⟨[], by kernel_rfl⟩
theorem laid_met (os : Os) : laidMetH Tryz.prog Rows.talkPrefixRow.laid ((laidWorld os).forCall (fun _ _ => 0) ⟨#[], #[.int .i64 0, .slice none 0 0, .slice none 0 0], []⟩).memory := laidMetW os _

set_option maxRecDepth 100000 in
theorem lifted (os : Os) (started : os.Started) (H : Type) (enc : TypeId × Value → H) (F : Stop.Interp) :
    ReturnsInHanded {} Tryz.checked os 4 .any ((OpenSpec.ofChange Rows.talkPrefixSpec).preRow enc Tryz.prog Tryz.f4 Rows.talkPrefixRow.domain false Rows.talkPrefixRow.laid) (((OpenSpec.ofChange Rows.talkPrefixSpec).at F).post enc Tryz.prog Tryz.f4 false true false false) := by
  obtain ⟨places, hx⟩ := reads os enc
  refine returnsInHanded_of_row (C := Tryz.checked) (s := OpenSpec.ofChange Rows.talkPrefixSpec) own started (by kernel_rfl) Tryz.func4
    (witness_row_at (enc := enc) (C := Tryz.checked) false (laidWorld os) #[.int .i64 0, .slice none 0 0, .slice none 0 0] rfl (by kernel_rfl) (by kernel_rfl) (by kernel_rfl)
      (OpenSpec.preRow_of_cond 8 hx (by kernel_rfl) (fun k hk => by cases hk) (by kernel_rfl) (laid_met os))) ?_
  intro W base args ds gs before hval hW _ _ hsz hL _ _
  exact contract H enc W base args ds gs before hval hW hsz hL
end Go.Proofs.YtaindcicloapfaaGreatDoor.talkPrefix
