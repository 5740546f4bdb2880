/- Contracts and plain laws that the claim leans on, part 8 of 8: each part has its own word. No condition beside theirs. -/
import Derived.Test.YtmfbaijbigodkaaGreatDoorBase
import Derived.Test.YtmfbaijbigodkaaGreatDoorOnly
import Derived.Test.YtmfbaijbigodkaaGreatDoorMay
import Derived.Test.YtmfbaijbigodkaaGreatDoorCredit
import Derived.Test.YtmfbaijbigodkaaGreatDoorZG
import Derived.Deep.RegionLaw
import Derived.Deep.DeepCutAuto
import Derived.StillTailTactics
/-! Contract of the reference's Take. Condition: the blocks hold an end as NewEnd and the calls leave it, there were no more than 1000 packets, the bytes are no more than memory reaches. -/
namespace Go.Proofs.YtmfbaijbigodkaaGreatDoor.NTk
open Go.ChangeShapes Go.WideShapes Go.ChangeAt Go.RowKit
set_option linter.unusedVariables false

def growRow (u : Nat → Value) : Nat → Nat → List Value
  | _, 0 => []
  | k, n + 1 => u k :: growRow u (k + 1) n
theorem growRow_congr {u v : Nat → Value} : ∀ (n k : Nat), (∀ i, k ≤ i → u i = v i) → growRow u k n = growRow v k n
  | 0, _, _ => rfl
  | n + 1, k, h => by
    rw [growRow, growRow, h k (Nat.le_refl k), growRow_congr n (k + 1) (fun i hi => h i (by omega))]
theorem growRow_any : ∀ (n k : Nat) (U : List Value), U.length = n → ∃ u : Nat → Value, U = growRow u k n
  | 0, k, U, h => ⟨fun _ => .nilIface, by rw [List.length_eq_zero_iff.1 h]; rfl⟩
  | n + 1, k, [], h => by simp at h
  | n + 1, k, x :: r, h => by
    obtain ⟨u, hu⟩ := growRow_any n (k + 1) r (by simpa using h)
    refine ⟨fun i => if i = k then x else u i, ?_⟩
    rw [growRow, if_pos rfl, hu]
    congr 1
    exact growRow_congr n (k + 1) (fun i hi => by rw [if_neg (by omega)])
set_option maxRecDepth 100000 in
theorem growTail {U : List Value} (h : U.length = 242) : ∃ u : Nat → Value, U = [u 24, u 25, u 26, u 27, u 28, u 29, u 30, u 31, u 32, u 33, u 34, u 35, u 36, u 37, u 38, u 39, u 40, u 41, u 42, u 43, u 44, u 45, u 46, u 47, u 48, u 49, u 50, u 51, u 52, u 53, u 54, u 55, u 56, u 57, u 58, u 59, u 60, u 61, u 62, u 63, u 64, u 65, u 66, u 67, u 68, u 69, u 70, u 71, u 72, u 73, u 74, u 75, u 76, u 77, u 78, u 79, u 80, u 81, u 82, u 83, u 84, u 85, u 86, u 87, u 88, u 89, u 90, u 91, u 92, u 93, u 94, u 95, u 96, u 97, u 98, u 99, u 100, u 101, u 102, u 103, u 104, u 105, u 106, u 107, u 108, u 109, u 110, u 111, u 112, u 113, u 114, u 115, u 116, u 117, u 118, u 119, u 120, u 121, u 122, u 123, u 124, u 125, u 126, u 127, u 128, u 129, u 130, u 131, u 132, u 133, u 134, u 135, u 136, u 137, u 138, u 139, u 140, u 141, u 142, u 143, u 144, u 145, u 146, u 147, u 148, u 149, u 150, u 151, u 152, u 153, u 154, u 155, u 156, u 157, u 158, u 159, u 160, u 161, u 162, u 163, u 164, u 165, u 166, u 167, u 168, u 169, u 170, u 171, u 172, u 173, u 174, u 175, u 176, u 177, u 178, u 179, u 180, u 181, u 182, u 183, u 184, u 185, u 186, u 187, u 188, u 189, u 190, u 191, u 192, u 193, u 194, u 195, u 196, u 197, u 198, u 199, u 200, u 201, u 202, u 203, u 204, u 205, u 206, u 207, u 208, u 209, u 210, u 211, u 212, u 213, u 214, u 215, u 216, u 217, u 218, u 219, u 220, u 221, u 222, u 223, u 224, u 225, u 226, u 227, u 228, u 229, u 230, u 231, u 232, u 233, u 234, u 235, u 236, u 237, u 238, u 239, u 240, u 241, u 242, u 243, u 244, u 245, u 246, u 247, u 248, u 249, u 250, u 251, u 252, u 253, u 254, u 255, u 256, u 257, u 258, u 259, u 260, u 261, u 262, u 263, u 264, u 265] := by
  obtain ⟨u, hu⟩ := growRow_any 242 24 U h
  exact ⟨u, hu.trans (by kernel_rfl)⟩
set_option maxRecDepth 100000 in
/-- behind what number is to come -/
def NX (g : Nat) (b : ByteArray) (nx : Int) (wv : World) (a : Act) (wx : World) : Prop := wv = wx ∧
  ∃ (t2 t3 t4 t6 t7 t8 t9 t10 t11 t12 t13 t14 t15 t16 t17 t18 t19 t20 t21 t22 t23 : Value) (U : List Value), U.length = 242 ∧ a = ⟨((.pointer (some ⟨g, 0, none⟩)) :: (.string b) :: t2 :: t3 :: t4 :: (.int .i64 nx) :: t6 :: t7 :: t8 :: t9 :: t10 :: t11 :: t12 :: t13 :: t14 :: t15 :: t16 :: t17 :: t18 :: t19 :: t20 :: t21 :: t22 :: t23 :: U).toArray, []⟩
set_option maxRecDepth 100000 in
/-- ahead of a frame -/
def LI (g : Nat) (b : ByteArray) (n : Int) (Al : Option Addr) (nl cl gt gs gc : Nat) (s : EnS) (L : List Frm) (w2 : World) (a : Act) (wx : World) : Prop := ∃ (i : Nat) (si : EnS), (i ≤ nl ∧ s.takes (L.take i) = (0, si) ∧ TkW w2 wx gt gs gc si) ∧
  ∃ (t2 t3 t4 t5 t8 t9 t16 t17 t18 t19 t20 t21 t22 t23 : Value) (U : List Value), U.length = 242 ∧ a = ⟨((.pointer (some ⟨g, 0, none⟩)) :: (.string b) :: t2 :: t3 :: t4 :: t5 :: (.int .i64 n) :: (.slice Al nl cl) :: t8 :: t9 :: (.pointer (some ⟨gt, 0, none⟩)) :: (.int .i64 si.may) :: (.int .i64 si.known) :: (.pointer (some ⟨gs, 0, none⟩)) :: (.pointer (some ⟨gc, 0, none⟩)) :: (.int .i64 i) :: t16 :: t17 :: t18 :: t19 :: t20 :: t21 :: t22 :: t23 :: U).toArray, []⟩
def LM (nl : Nat) (a : Act) (wx : World) : Nat := nl - (intOf (a.tmps.toList.getD 15 undef)).toNat
set_option maxRecDepth 100000 in
/-- behind a frame -/
def SC (g : Nat) (b : ByteArray) (n : Int) (Al : Option Addr) (nl cl gt gs gc : Nat) (E : Int) (s1 : EnS) (i : Nat) (w2 : World) (a : Act) (wx : World) : Prop := (E = 0 ∧ TkW w2 wx gt gs gc s1) ∧
  ∃ (t2 t3 t4 t5 t8 t9 t16 t17 t18 t19 t20 t21 t22 t23 : Value) (U : List Value), U.length = 242 ∧ a = ⟨((.pointer (some ⟨g, 0, none⟩)) :: (.string b) :: t2 :: t3 :: t4 :: t5 :: (.int .i64 n) :: (.slice Al nl cl) :: t8 :: t9 :: (.pointer (some ⟨gt, 0, none⟩)) :: (.int .i64 s1.may) :: (.int .i64 s1.known) :: (.pointer (some ⟨gs, 0, none⟩)) :: (.pointer (some ⟨gc, 0, none⟩)) :: (.int .i64 i) :: t16 :: t17 :: t18 :: t19 :: t20 :: t21 :: t22 :: t23 :: U).toArray, []⟩
set_option maxRecDepth 100000 in
/-- behind a call of the copies -/
def S3 (g : Nat) (b : ByteArray) (n : Int) (Al : Option Addr) (nl cl gt gs gc : Nat) (s0 s1 : EnS) (i : Nat) (ev : Int) (w2 : World) (a : Act) (wx : World) : Prop := TkW w2 wx gt gs gc s1 ∧
  ∃ (t2 t3 t4 t5 t8 t9 t16 t17 t18 t19 t20 t21 t23 : Value) (U : List Value), U.length = 242 ∧ a = ⟨((.pointer (some ⟨g, 0, none⟩)) :: (.string b) :: t2 :: t3 :: t4 :: t5 :: (.int .i64 n) :: (.slice Al nl cl) :: t8 :: t9 :: (.pointer (some ⟨gt, 0, none⟩)) :: (.int .i64 s0.may) :: (.int .i64 s0.known) :: (.pointer (some ⟨gs, 0, none⟩)) :: (.pointer (some ⟨gc, 0, none⟩)) :: (.int .i64 i) :: t16 :: t17 :: t18 :: t19 :: t20 :: t21 :: (.int .i64 ev) :: t23 :: U).toArray, []⟩
set_option maxRecDepth 100000 in
/-- over the ranges -/
def LK (g : Nat) (b : ByteArray) (n : Int) (Al : Option Addr) (nl cl gt gs gc : Nat) (my : Int) (i : Nat) (Ar : Option Addr) (nr cr : Nat) (kn : Int) (M : List (List Pc)) (T : List Bool) (R : List Rng) (w4 : World) (a : Act) (wx : World) : Prop := ∃ k : Nat, (k ≤ nr ∧ BlockIs wx gt 42 (tolCells (tellRs M T (R.take k))) ∧ Out w4 wx [gt]) ∧
  ∃ (t2 t3 t4 t5 t8 t9 t18 t19 t20 t21 t22 t23 : Value) (U : List Value), U.length = 242 ∧ a = ⟨((.pointer (some ⟨g, 0, none⟩)) :: (.string b) :: t2 :: t3 :: t4 :: t5 :: (.int .i64 n) :: (.slice Al nl cl) :: t8 :: t9 :: (.pointer (some ⟨gt, 0, none⟩)) :: (.int .i64 my) :: (.int .i64 kn) :: (.pointer (some ⟨gs, 0, none⟩)) :: (.pointer (some ⟨gc, 0, none⟩)) :: (.int .i64 i) :: (.slice Ar nr cr) :: (.int .i64 k) :: t18 :: t19 :: t20 :: t21 :: t22 :: t23 :: U).toArray, []⟩
def LKM (nr : Nat) (a : Act) (wx : World) : Nat := nr - (intOf (a.tmps.toList.getD 17 undef)).toNat
set_option maxRecDepth 100000 in
/-- behind the ranges -/
def SK (g : Nat) (b : ByteArray) (n : Int) (Al : Option Addr) (nl cl gt gs gc : Nat) (my : Int) (i : Nat) (Ar : Option Addr) (nr cr : Nat) (kn : Int) (T : List Bool) (w4 : World) (a : Act) (wx : World) : Prop := (BlockIs wx gt 42 (tolCells T) ∧ Out w4 wx [gt]) ∧
  ∃ (t2 t3 t4 t5 t8 t9 t17 t18 t19 t20 t21 t22 t23 : Value) (U : List Value), U.length = 242 ∧ a = ⟨((.pointer (some ⟨g, 0, none⟩)) :: (.string b) :: t2 :: t3 :: t4 :: t5 :: (.int .i64 n) :: (.slice Al nl cl) :: t8 :: t9 :: (.pointer (some ⟨gt, 0, none⟩)) :: (.int .i64 my) :: (.int .i64 kn) :: (.pointer (some ⟨gs, 0, none⟩)) :: (.pointer (some ⟨gc, 0, none⟩)) :: (.int .i64 i) :: (.slice Ar nr cr) :: t17 :: t18 :: t19 :: t20 :: t21 :: t22 :: t23 :: U).toArray, []⟩
set_option maxRecDepth 100000 in
/-- over the packets of a range -/
def LQ (g : Nat) (b : ByteArray) (n : Int) (Al : Option Addr) (nl cl gt gs gc : Nat) (my : Int) (i : Nat) (Ar : Option Addr) (nr cr : Nat) (kn : Int) (k : Nat) (M : List (List Pc)) (T : List Bool) (lo hi : Nat) (w4 : World) (a : Act) (wx : World) : Prop := ∃ m : Nat, (lo ≤ m ∧ m ≤ hi + 1 ∧ BlockIs wx gt 42 (tolCells (tellPcs T (((M.take m).drop lo).flatten))) ∧ Out w4 wx [gt]) ∧
  ∃ (t2 t3 t4 t5 t8 t9 t19 t20 t21 t22 t23 : Value) (U : List Value), U.length = 242 ∧ a = ⟨((.pointer (some ⟨g, 0, none⟩)) :: (.string b) :: t2 :: t3 :: t4 :: t5 :: (.int .i64 n) :: (.slice Al nl cl) :: t8 :: t9 :: (.pointer (some ⟨gt, 0, none⟩)) :: (.int .i64 my) :: (.int .i64 kn) :: (.pointer (some ⟨gs, 0, none⟩)) :: (.pointer (some ⟨gc, 0, none⟩)) :: (.int .i64 i) :: (.slice Ar nr cr) :: (.int .i64 k) :: (.int .i64 m) :: t19 :: t20 :: t21 :: t22 :: t23 :: U).toArray, []⟩
def LQM (hi : Nat) (a : Act) (wx : World) : Nat := hi + 1 - (intOf (a.tmps.toList.getD 18 undef)).toNat
set_option maxRecDepth 100000 in
/-- over the pieces of a packet -/
def LJ (g : Nat) (b : ByteArray) (n : Int) (Al : Option Addr) (nl cl gt gs gc : Nat) (my : Int) (i : Nat) (Ar : Option Addr) (nr cr : Nat) (kn : Int) (k m : Nat) (T : List Bool) (P : List Pc) (w4 : World) (a : Act) (wx : World) : Prop := ∃ j : Nat, (j ≤ P.length ∧ BlockIs wx gt 42 (tolCells (tellPcs T (P.take j))) ∧ Out w4 wx [gt]) ∧
  ∃ (t2 t3 t4 t5 t8 t9 t20 t21 t22 t23 : Value) (U : List Value), U.length = 242 ∧ a = ⟨((.pointer (some ⟨g, 0, none⟩)) :: (.string b) :: t2 :: t3 :: t4 :: t5 :: (.int .i64 n) :: (.slice Al nl cl) :: t8 :: t9 :: (.pointer (some ⟨gt, 0, none⟩)) :: (.int .i64 my) :: (.int .i64 kn) :: (.pointer (some ⟨gs, 0, none⟩)) :: (.pointer (some ⟨gc, 0, none⟩)) :: (.int .i64 i) :: (.slice Ar nr cr) :: (.int .i64 k) :: (.int .i64 m) :: (.int .i64 j) :: t20 :: t21 :: t22 :: t23 :: U).toArray, []⟩
def LJM (np : Nat) (a : Act) (wx : World) : Nat := np - (intOf (a.tmps.toList.getD 19 undef)).toNat
set_option maxRecDepth 100000 in
/-- over the bytes of a piece -/
def LB (g : Nat) (b : ByteArray) (n : Int) (Al : Option Addr) (nl cl gt gs gc : Nat) (my : Int) (i : Nat) (Ar : Option Addr) (nr cr : Nat) (kn : Int) (k m j gp : Nat) (T : List Bool) (at_ : Nat) (d : ByteArray) (w4 : World) (a : Act) (wx : World) : Prop := ∃ q : Nat, (q ≤ d.size ∧ BlockIs wx gt 42 (tolCells (tellN T at_ q)) ∧ BlockIs wx gp 98 #[.int .i64 at_, .string d] ∧ Out w4 wx [gt]) ∧
  ∃ (t2 t3 t4 t5 t8 t9 t22 t23 : Value) (U : List Value), U.length = 242 ∧ a = ⟨((.pointer (some ⟨g, 0, none⟩)) :: (.string b) :: t2 :: t3 :: t4 :: t5 :: (.int .i64 n) :: (.slice Al nl cl) :: t8 :: t9 :: (.pointer (some ⟨gt, 0, none⟩)) :: (.int .i64 my) :: (.int .i64 kn) :: (.pointer (some ⟨gs, 0, none⟩)) :: (.pointer (some ⟨gc, 0, none⟩)) :: (.int .i64 i) :: (.slice Ar nr cr) :: (.int .i64 k) :: (.int .i64 m) :: (.int .i64 j) :: (.pointer (some ⟨gp, 0, none⟩)) :: (.int .i64 q) :: t22 :: t23 :: U).toArray, []⟩
def LBM (nd : Nat) (a : Act) (wx : World) : Nat := nd - (intOf (a.tmps.toList.getD 21 undef)).toNat

set_option maxHeartbeats 40000000 in
set_option maxRecDepth 100000 in
theorem ntake (g : Nat) (s : EnS) (b : ByteArray) (w : World) (S : List Nat) (h : (rnT g s).is w S) (h1000 : s.made.length ≤ 1000) (hz : b.size ≤ 9223372036854775000) :
    Calls Tryz.prog 18 #[.pointer (some ⟨g, 0, none⟩), .string b] w fun e w' => e = .returned (.int .i64 (s.takeE b.data.toList)) ∧ Leaves w w' S (rnT g (s.take b.data.toList)) := by
  have H0 := Lib.hid h
  obtain ⟨p, hp⟩ := rnT_open h
  have H := Lib.hid hp
  obtain ⟨l, hl⟩ : ∃ l, b.data.toList = l := ⟨_, rfl⟩
  have HPS := Lib.hid (fun (X : World) (z : Int) => ropen b z X (by omega))
  rw [hl] at HPS
  obtain ⟨RE, hRE⟩ : ∃ E, s.takeE b.data.toList = E := ⟨_, rfl⟩
  obtain ⟨RS, hRS⟩ : ∃ E, s.take b.data.toList = E := ⟨_, rfl⟩
  rw [hRE, hRS]
  rw [hl] at hRE hRS
  obtain ⟨nx, hnx⟩ : ∃ n, nextN s.came = n := ⟨_, rfl⟩
  have hE1 : Hid (openE l nx ≠ 0 → RE = openE l nx ∧ RS = s) := Lib.hid (fun h0 => ⟨by rw [← hRE]; unfold EnS.takeE; rw [hnx, if_neg h0], by rw [← hRS]; unfold EnS.take; rw [hnx, if_neg h0]⟩)
  have hE0 : Hid (openE l nx = 0 → RE = s.pktE (openN l nx) (openL l nx) ∧ RS = s.pkt (openN l nx) (openL l nx)) := Lib.hid (fun h0 => ⟨by rw [← hRE]; unfold EnS.takeE; rw [hnx, if_pos h0], by rw [← hRS]; unfold EnS.take; rw [hnx, if_pos h0]⟩)
  have HFO := Lib.hid (openL_ok l nx)
  have HFW := Lib.hid (openL_few l nx)
  have HNX := Lib.hid hnx
  have lg := hp.bg.lt
  have c64 := hp.c64
  obtain ⟨Ac, cc, hcv, -, -, -⟩ := hp.lc.shape
  rw [List.length_map] at hcv
  rw [hcv] at c64
  have HRC : Hid (Rd w 2 (.slice Ac s.came.length cc) (s.came.map rngRow)) := Lib.hid (by rw [← hcv]; exact Rd.of_lst hp.lc)
  have HCV := Lib.hid hcv
  clear h hp hl hRE hRS hnx hcv hz
  go_enter Tryz.func18, Tryz.ntmps18
  trace "A"; repeat ((fail_if_success (with_reducible refine stop_at 2 ?_)); first | fail | go_values | go_skip | go_guarded | go_step | go_upon | go_back | go_simp)
  trace "A1"; refine wp_cut (NX g b nx w) ?_ ?_
  rotate_left
  next =>
    as_aux_lemma =>
      intro _ _ _ _
      by_cases h0 : s.came = []
      · have hE : Hid (nx = 0) := Lib.hid (by rw [← HNX.out]; unfold nextN; rw [if_pos h0])
        rw [h0] at c64
        clear h0
        trace "A2"; go_wp2_with fail
        refine Met.intro ?_
        go_step
        unfold NX
        rw [hE.out]
        exact ⟨rfl, _, _, _, _, _, _, _, _, _, _, _, _, _, _, _, _, _, _, _, _, _, _, (by kernel_rfl), rfl⟩
      · have hl : 0 < s.came.length := List.length_pos_iff.2 h0
        have hr := rngE_ok H.out.ok.cm (rat s.came 0) (by rw [rat_get hl]; exact List.getElem_mem _)
        have hE : Hid (nx = min 1073741823 ((rat s.came 0).hi + 1)) := Lib.hid (by rw [← HNX.out]; unfold nextN; rw [if_neg h0])
        obtain ⟨bb, off, rfl, hlt, hcc⟩ := HRC.out.rng hl
        obtain ⟨-, e1⟩ := hcc w (Since.refl w) 0 hl
        have hb1 : (0 : Int) < (s.came.length : Int) := by omega
        have hwr : IntKind.i64.wrap ((rat s.came 0).hi + 1) = (rat s.came 0).hi + 1 := IntWalk.i64_in _ (by omega)
        rw [Nat.zero_mul, Nat.add_zero] at e1
        generalize rat s.came 0 = r at *
        obtain ⟨z, hzz⟩ : ∃ z, r.hi + 1 = z := ⟨_, rfl⟩
        by_cases hbig : 1073741823 < r.hi + 1
        · have hE2 : Hid (nx = 1073741823) := Lib.hid (by rw [hE.out]; omega)
          clear hcc h0 hr hzz
          trace "A3"; go_wp2_with fail
          refine Met.intro ?_
          go_step
          unfold NX
          rw [hE2.out]
          exact ⟨rfl, _, _, _, _, _, _, _, _, _, _, _, _, _, _, _, _, _, _, _, _, _, _, (by kernel_rfl), rfl⟩
        · have hE2 : Hid (nx = r.hi + 1) := Lib.hid (by rw [hE.out]; omega)
          have hbig' : decide (1073741823 < r.hi + 1) = false := by simpa using hbig
          have hbig2 : r.hi + 1 ≤ 1073741823 := by omega
          clear hcc h0 hr hzz
          trace "A4"; go_wp2_with fail
          refine Met.intro ?_
          go_step
          unfold NX
          rw [hE2.out]
          exact ⟨rfl, _, _, _, _, _, _, _, _, _, _, _, _, _, _, _, _, _, _, _, _, _, _, (by kernel_rfl), rfl⟩
  intro a' w1 hinv
  obtain ⟨rfl, t2, t3, t4, t6, t7, t8, t9, t10, t11, t12, t13, t14, t15, t16, t17, t18, t19, t20, t21, t22, t23, U, hU, rfl⟩ := hinv
  obtain ⟨u, rfl⟩ := growTail hU; clear hU
  trace "B"; go_wp2_with fail
  refine (HPS.out _ nx).mono ?_
  rintro e w1 ⟨Al, nl, cl, Ms, rfl, hb1, hf1, hn1, hm1⟩
  have hs1 : Since w w1 := hb1
  have HF1 := Lib.hid hf1
  have HM1 := Lib.hid hm1
  clear hf1 hm1 hb1 HPS
  by_cases hE : openE l nx = 0
  case neg =>
    have HH := Lib.hid (hE1.out hE)
    obtain ⟨ee, hee⟩ : ∃ e, openE l nx = e := ⟨_, rfl⟩
    rw [hee] at HH hE
    rw [hee]
    have hne : (ee != 0) = true := by simpa using hE
    clear hE hee
    trace "C"; go_wp2_with fail
    go_ret
    rw [HH.out.1, HH.out.2]
    exact ⟨rfl, Leaves.same H0.out hs1⟩
  have HH := Lib.hid (hE0.out hE)
  have HMY := Lib.hid (open_may hE)
  rw [hE]
  clear hE
  obtain ⟨n, hn⟩ : ∃ n, openN l nx = n := ⟨_, rfl⟩
  obtain ⟨L, hL⟩ : ∃ L, openL l nx = L := ⟨_, rfl⟩
  rw [hn, hL] at HH
  rw [hL] at HM1 HFO HFW
  rw [hn] at HMY
  rw [hn]
  have hn12 : nl ≤ 12 := by
    have h1 := congrArg List.length HM1.out
    rw [List.length_map, hn1] at h1
    have := HFW.out
    omega
  clear hn hL
  have c64 : w1.cell? ⟨g, 64, none⟩ = some (.slice Ac s.came.length cc) := hs1.cell lg c64
  have lg1 := Nat.lt_of_lt_of_le lg hs1.size
  have HRI := Lib.hid (rinR Ac s.came.length cc s.came n w1 rfl (HRC.out.later hs1))
  trace "D"; go_wp2_with fail
  refine HRI.out.mono ?_
  rintro e w2 ⟨rfl, hb2⟩
  have hs2 : Since w w2 := hs1.later hb2
  have HF2 := Lib.hid (HF1.out.later hb2)
  clear hb2 HRI
  cases hin : inB s.came n with
  | true =>
    have HR : Hid (RE = 0 ∧ RS = s) := Lib.hid ⟨by rw [HH.out.1]; unfold EnS.pktE; rw [if_pos hin], by rw [HH.out.2]; unfold EnS.pkt; rw [if_pos hin]⟩
    clear hin
    trace "E"; go_wp2_with fail
    go_ret
    rw [HR.out.1, HR.out.2]
    exact ⟨rfl, Leaves.same H0.out hs2⟩
  | false =>
    have HR : Hid (RE = (if (s.takes L).1 = 0 then addE s.came n else (s.takes L).1) ∧ RS = if (s.takes L).1 = 0 then (if addE s.came n = 0 then { (s.takes L).2 with came := addL s.came n } else s) else s) := Lib.hid ⟨by rw [HH.out.1]; unfold EnS.pktE; rw [if_neg (by rw [hin]; simp)], by rw [HH.out.2]; unfold EnS.pkt; rw [if_neg (by rw [hin]; simp)]⟩
    have c64w : w.cell? ⟨g, 64, none⟩ = some (.slice Ac s.came.length cc) := by rw [← HCV.out]; exact H.out.c64
    clear hin c64 lg1
    have H2 := Lib.hid (H.out.later hs2)
    have lg2 := H2.out.bg.lt
    have HT0 := Lib.hid (told_range H2.out)
    have HL0 : Hid ((s.told.map Value.bool).length = 60) := Lib.hid (by rw [List.length_map]; exact H2.out.ok.tl)
    have HTO : Hid (∀ v ∈ s.told.map Value.bool, v.oneCell' = true) := Lib.hid (fun v hv => by obtain ⟨o, _, rfl⟩ := List.mem_map.1 hv; rfl)
    have HQ0 : Hid (∀ X, Since w X → X.rangeAt p.gi 0 (refCells s.M s.t).toList) := Lib.hid (fun X hX => (H.out.later hX).qz.bl.range)
    have HQL : Hid ((refCells s.M s.t).toList.length = 61) := Lib.hid (by unfold refCells; simp [H2.out.ok.ml])
    have HQO : Hid (∀ v ∈ (refCells s.M s.t).toList, v.oneCell' = true) := Lib.hid (fun v hv => by
      unfold refCells at hv
      rcases List.mem_append.1 hv with hv | hv
      · obtain ⟨o, _, rfl⟩ := List.mem_map.1 hv; rfl
      · rw [List.mem_singleton.1 hv]; rfl)
    have HTC : Hid ((s.told.map Value.bool).toArray = tolCells s.told) := Lib.hid rfl
    have HQC : Hid ((refCells s.M s.t).toList.toArray = refCells s.M s.t) := Lib.hid (by simp)
    obtain ⟨tc, htc⟩ : ∃ x, s.told.map Value.bool = x := ⟨_, rfl⟩
    obtain ⟨qc, hqc⟩ : ∃ x, (refCells s.M s.t).toList = x := ⟨_, rfl⟩
    rw [htc] at HT0 HL0 HTO HTC
    rw [hqc] at HQ0 HQL HQO HQC
    have HIT : Hid ((Tryz.prog.info? 42).map (·.size) = some tc.length) := Lib.hid (by rw [HL0.out]; kernel_rfl)
    have HIQ : Hid ((Tryz.prog.info? 114).map (·.size) = some qc.length) := Lib.hid (by rw [HQL.out]; kernel_rfl)
    have HZT : Hid ((#[Value.bool false, Value.bool false, Value.bool false, Value.bool false, Value.bool false, Value.bool false, Value.bool false, Value.bool false, Value.bool false, Value.bool false, Value.bool false, Value.bool false, Value.bool false, Value.bool false, Value.bool false, Value.bool false, Value.bool false, Value.bool false, Value.bool false, Value.bool false, Value.bool false, Value.bool false, Value.bool false, Value.bool false, Value.bool false, Value.bool false, Value.bool false, Value.bool false, Value.bool false, Value.bool false, Value.bool false, Value.bool false, Value.bool false, Value.bool false, Value.bool false, Value.bool false, Value.bool false, Value.bool false, Value.bool false, Value.bool false, Value.bool false, Value.bool false, Value.bool false, Value.bool false, Value.bool false, Value.bool false, Value.bool false, Value.bool false, Value.bool false, Value.bool false, Value.bool false, Value.bool false, Value.bool false, Value.bool false, Value.bool false, Value.bool false, Value.bool false, Value.bool false, Value.bool false, Value.bool false] : Array Value).size = tc.length) := Lib.hid (by rw [HL0.out]; kernel_rfl)
    have HZQ : Hid ((#[Value.int IntKind.i64 0, Value.int IntKind.i64 0, Value.int IntKind.i64 0, Value.int IntKind.i64 0, Value.int IntKind.i64 0, Value.int IntKind.i64 0, Value.int IntKind.i64 0, Value.int IntKind.i64 0, Value.int IntKind.i64 0, Value.int IntKind.i64 0, Value.int IntKind.i64 0, Value.int IntKind.i64 0, Value.int IntKind.i64 0, Value.int IntKind.i64 0, Value.int IntKind.i64 0, Value.int IntKind.i64 0, Value.int IntKind.i64 0, Value.int IntKind.i64 0, Value.int IntKind.i64 0, Value.int IntKind.i64 0, Value.int IntKind.i64 0, Value.int IntKind.i64 0, Value.int IntKind.i64 0, Value.int IntKind.i64 0, Value.int IntKind.i64 0, Value.int IntKind.i64 0, Value.int IntKind.i64 0, Value.int IntKind.i64 0, Value.int IntKind.i64 0, Value.int IntKind.i64 0, Value.int IntKind.i64 0, Value.int IntKind.i64 0, Value.int IntKind.i64 0, Value.int IntKind.i64 0, Value.int IntKind.i64 0, Value.int IntKind.i64 0, Value.int IntKind.i64 0, Value.int IntKind.i64 0, Value.int IntKind.i64 0, Value.int IntKind.i64 0, Value.int IntKind.i64 0, Value.int IntKind.i64 0, Value.int IntKind.i64 0, Value.int IntKind.i64 0, Value.int IntKind.i64 0, Value.int IntKind.i64 0, Value.int IntKind.i64 0, Value.int IntKind.i64 0, Value.int IntKind.i64 0, Value.int IntKind.i64 0, Value.int IntKind.i64 0, Value.int IntKind.i64 0, Value.int IntKind.i64 0, Value.int IntKind.i64 0, Value.int IntKind.i64 0, Value.int IntKind.i64 0, Value.int IntKind.i64 0, Value.int IntKind.i64 0, Value.int IntKind.i64 0, Value.int IntKind.i64 0, Value.int IntKind.i64 0] : Array Value).size = qc.length) := Lib.hid (by rw [HQL.out]; kernel_rfl)
    have HFT := Lib.hid (fresh_puts (w := w2) (t := 42) HZT.out)
    have HTT := Lib.hid (fresh_there (w := w2) (t := 42) HZT.out)
    clear htc hqc
    trace "F"; go_upto_region 13 with (first | (refine wpList_load_mid rfl 42 (.tmp 59) rfl g 1 (by go_simp) tc _ HT0.out Tryz.underlying42 rfl HIT.out ?_) | (refine wpList_store_mid rfl 42 (.tmp 10) (.tmp 60) rfl w2.heap.size 0 tc.toArray (by go_simp) (by go_simp) HTT.out (by rw [HIT.out, List.size_toArray]) (all_oneCell_toArray HTO.out) ?_))
    have HB3 := Lib.hid HFT.out.1
    rw [HTC.out] at HB3
    have HS3 : Hid (Since w2 ((w2.alloc (.cells (#[Value.bool false, Value.bool false, Value.bool false, Value.bool false, Value.bool false, Value.bool false, Value.bool false, Value.bool false, Value.bool false, Value.bool false, Value.bool false, Value.bool false, Value.bool false, Value.bool false, Value.bool false, Value.bool false, Value.bool false, Value.bool false, Value.bool false, Value.bool false, Value.bool false, Value.bool false, Value.bool false, Value.bool false, Value.bool false, Value.bool false, Value.bool false, Value.bool false, Value.bool false, Value.bool false, Value.bool false, Value.bool false, Value.bool false, Value.bool false, Value.bool false, Value.bool false, Value.bool false, Value.bool false, Value.bool false, Value.bool false, Value.bool false, Value.bool false, Value.bool false, Value.bool false, Value.bool false, Value.bool false, Value.bool false, Value.bool false, Value.bool false, Value.bool false, Value.bool false, Value.bool false, Value.bool false, Value.bool false, Value.bool false, Value.bool false, Value.bool false, Value.bool false, Value.bool false, Value.bool false] : Array Value) 42)).setCells w2.heap.size 0 tc)) := Lib.hid HFT.out.2
    obtain ⟨gt, hgt⟩ : ∃ x, w2.heap.size = x := ⟨_, rfl⟩
    rw [hgt]
    rw [hgt] at HB3 HS3
    have HGT := Lib.hid hgt
    generalize ((w2.alloc (.cells (#[Value.bool false, Value.bool false, Value.bool false, Value.bool false, Value.bool false, Value.bool false, Value.bool false, Value.bool false, Value.bool false, Value.bool false, Value.bool false, Value.bool false, Value.bool false, Value.bool false, Value.bool false, Value.bool false, Value.bool false, Value.bool false, Value.bool false, Value.bool false, Value.bool false, Value.bool false, Value.bool false, Value.bool false, Value.bool false, Value.bool false, Value.bool false, Value.bool false, Value.bool false, Value.bool false, Value.bool false, Value.bool false, Value.bool false, Value.bool false, Value.bool false, Value.bool false, Value.bool false, Value.bool false, Value.bool false, Value.bool false, Value.bool false, Value.bool false, Value.bool false, Value.bool false, Value.bool false, Value.bool false, Value.bool false, Value.bool false, Value.bool false, Value.bool false, Value.bool false, Value.bool false, Value.bool false, Value.bool false, Value.bool false, Value.bool false, Value.bool false, Value.bool false, Value.bool false, Value.bool false] : Array Value) 42)).setCells gt 0 tc) = w3 at *
    clear hgt HT0 HFT HTT lg2 HTC HIT HZT HTO HL0
    have hs3 : Since w w3 := hs2.later HS3.out
    have H3 := Lib.hid (H.out.later hs3)
    have d61 := H3.out.c61
    have d63 := H3.out.c63
    have d65 := H3.out.c65
    have lg3 := H3.out.bg.lt
    have lgi := H3.out.qz.bl.lt
    have HR3 := Lib.hid (HQ0.out w3 hs3)
    have HFQ := Lib.hid (fresh_puts (w := w3) (t := 114) HZQ.out)
    have HTQ := Lib.hid (fresh_there (w := w3) (t := 114) HZQ.out)
    trace "G"; go_upto_region 16 with (first | (refine wpList_load_mid rfl 114 (.tmp 73) rfl p.gi 0 (by go_simp) qc _ HR3.out Tryz.underlying114 rfl HIQ.out ?_) | (refine wpList_store_mid rfl 114 (.tmp 13) (.tmp 74) rfl w3.heap.size 0 qc.toArray (by go_simp) (by go_simp) HTQ.out (by rw [HIQ.out, List.size_toArray]) (all_oneCell_toArray HQO.out) ?_))
    have HB4 := Lib.hid HFQ.out.1
    rw [HQC.out] at HB4
    have HS4 : Hid (Since w3 ((w3.alloc (.cells (#[Value.int IntKind.i64 0, Value.int IntKind.i64 0, Value.int IntKind.i64 0, Value.int IntKind.i64 0, Value.int IntKind.i64 0, Value.int IntKind.i64 0, Value.int IntKind.i64 0, Value.int IntKind.i64 0, Value.int IntKind.i64 0, Value.int IntKind.i64 0, Value.int IntKind.i64 0, Value.int IntKind.i64 0, Value.int IntKind.i64 0, Value.int IntKind.i64 0, Value.int IntKind.i64 0, Value.int IntKind.i64 0, Value.int IntKind.i64 0, Value.int IntKind.i64 0, Value.int IntKind.i64 0, Value.int IntKind.i64 0, Value.int IntKind.i64 0, Value.int IntKind.i64 0, Value.int IntKind.i64 0, Value.int IntKind.i64 0, Value.int IntKind.i64 0, Value.int IntKind.i64 0, Value.int IntKind.i64 0, Value.int IntKind.i64 0, Value.int IntKind.i64 0, Value.int IntKind.i64 0, Value.int IntKind.i64 0, Value.int IntKind.i64 0, Value.int IntKind.i64 0, Value.int IntKind.i64 0, Value.int IntKind.i64 0, Value.int IntKind.i64 0, Value.int IntKind.i64 0, Value.int IntKind.i64 0, Value.int IntKind.i64 0, Value.int IntKind.i64 0, Value.int IntKind.i64 0, Value.int IntKind.i64 0, Value.int IntKind.i64 0, Value.int IntKind.i64 0, Value.int IntKind.i64 0, Value.int IntKind.i64 0, Value.int IntKind.i64 0, Value.int IntKind.i64 0, Value.int IntKind.i64 0, Value.int IntKind.i64 0, Value.int IntKind.i64 0, Value.int IntKind.i64 0, Value.int IntKind.i64 0, Value.int IntKind.i64 0, Value.int IntKind.i64 0, Value.int IntKind.i64 0, Value.int IntKind.i64 0, Value.int IntKind.i64 0, Value.int IntKind.i64 0, Value.int IntKind.i64 0, Value.int IntKind.i64 0] : Array Value) 114)).setCells w3.heap.size 0 qc)) := Lib.hid HFQ.out.2
    obtain ⟨gs, hgs⟩ : ∃ x, w3.heap.size = x := ⟨_, rfl⟩
    rw [hgs]
    rw [hgs] at HB4 HS4
    have HGS : Hid (w2.heap.size ≤ gs) := Lib.hid (by rw [← hgs]; exact HS3.out.size)
    generalize ((w3.alloc (.cells (#[Value.int IntKind.i64 0, Value.int IntKind.i64 0, Value.int IntKind.i64 0, Value.int IntKind.i64 0, Value.int IntKind.i64 0, Value.int IntKind.i64 0, Value.int IntKind.i64 0, Value.int IntKind.i64 0, Value.int IntKind.i64 0, Value.int IntKind.i64 0, Value.int IntKind.i64 0, Value.int IntKind.i64 0, Value.int IntKind.i64 0, Value.int IntKind.i64 0, Value.int IntKind.i64 0, Value.int IntKind.i64 0, Value.int IntKind.i64 0, Value.int IntKind.i64 0, Value.int IntKind.i64 0, Value.int IntKind.i64 0, Value.int IntKind.i64 0, Value.int IntKind.i64 0, Value.int IntKind.i64 0, Value.int IntKind.i64 0, Value.int IntKind.i64 0, Value.int IntKind.i64 0, Value.int IntKind.i64 0, Value.int IntKind.i64 0, Value.int IntKind.i64 0, Value.int IntKind.i64 0, Value.int IntKind.i64 0, Value.int IntKind.i64 0, Value.int IntKind.i64 0, Value.int IntKind.i64 0, Value.int IntKind.i64 0, Value.int IntKind.i64 0, Value.int IntKind.i64 0, Value.int IntKind.i64 0, Value.int IntKind.i64 0, Value.int IntKind.i64 0, Value.int IntKind.i64 0, Value.int IntKind.i64 0, Value.int IntKind.i64 0, Value.int IntKind.i64 0, Value.int IntKind.i64 0, Value.int IntKind.i64 0, Value.int IntKind.i64 0, Value.int IntKind.i64 0, Value.int IntKind.i64 0, Value.int IntKind.i64 0, Value.int IntKind.i64 0, Value.int IntKind.i64 0, Value.int IntKind.i64 0, Value.int IntKind.i64 0, Value.int IntKind.i64 0, Value.int IntKind.i64 0, Value.int IntKind.i64 0, Value.int IntKind.i64 0, Value.int IntKind.i64 0, Value.int IntKind.i64 0, Value.int IntKind.i64 0] : Array Value) 114)).setCells gs 0 qc) = w4 at *
    clear hgs HFQ HTQ lg3 lgi HQC HIQ HZQ HQO HQL HR3 d61 d63 d65 HQ0 H3
    have hs4 : Since w w4 := hs3.later HS4.out
    have H4 := Lib.hid (H.out.later hs4)
    have d66 := H4.out.c66
    have lg4 := H4.out.bg.lt
    have lgl := H4.out.bl.lt
    have q0 : w4.cell? ⟨p.gl, 0, none⟩ = some (.int .i64 s.W) := H4.out.bl.cell 0
    have q1 : w4.cell? ⟨p.gl, 1, none⟩ = some (.int .i64 s.L) := H4.out.bl.cell 1
    have q2 : w4.cell? ⟨p.gl, 2, none⟩ = some (.int .i64 s.C) := H4.out.bl.cell 2
    have q3 : w4.cell? ⟨p.gl, 3, none⟩ = some (.int .i64 s.R) := H4.out.bl.cell 3
    trace "H"; go_wp2_with fail
    have HW0 : Hid (TkW w2 (w4.alloc (.cells #[.int .i64 s.W, .int .i64 s.L, .int .i64 s.C, .int .i64 s.R] 88)) gt gs w4.heap.size s) := Lib.hid (by
      have h3 : Since w2 w4 := HS3.out.later HS4.out
      exact ⟨(HB3.out.later HS4.out).alloc _, HB4.out.alloc _, BlockIs.fresh _ _ _, h3.alloc _⟩)
    have HGC : Hid (w2.heap.size ≤ w4.heap.size) := Lib.hid (Nat.le_trans HS3.out.size HS4.out.size)
    obtain ⟨w5, hw5⟩ : ∃ x, w4.alloc (.cells #[.int .i64 s.W, .int .i64 s.L, .int .i64 s.C, .int .i64 s.R] 88) = x := ⟨_, rfl⟩
    obtain ⟨gc, hgc⟩ : ∃ x, w4.heap.size = x := ⟨_, rfl⟩
    rw [hw5, hgc] at HW0
    rw [hgc] at HGC
    rw [hw5, hgc]
    clear hw5 hgc HB3 HB4 HS3 HS4 hs3 hs4 H4 d66 lg4 lgl q0 q1 q2 q3
    trace "H1"; refine wp_loop (LI g b n Al nl cl gt gs gc s L w2) (LM nl) ?_ ?_
    next => exact ⟨0, s, ⟨by omega, by rw [List.take_zero]; rfl, HW0.out⟩, _, _, _, _, _, _, _, _, _, _, _, _, _, _, _, (by kernel_rfl), rfl⟩
    next =>
      intro a' wr hinv
      obtain ⟨i, si, ⟨hi, hz0, htk⟩, t2, t3, t4, t5, t8, t9, t16, t17, t18, t19, t20, t21, t22, t23, U, hU, rfl⟩ := hinv
      obtain ⟨u, rfl⟩ := growTail hU; clear hU
      have HTK := Lib.hid htk
      have HZ0 := Lib.hid hz0
      have hs2r : Since w2 wr := htk.since
      have hsr : Since w wr := hs2.later hs2r
      have HLl : Hid (L.length = nl) := Lib.hid (by rw [← HM1.out, List.length_map]; exact hn1)
      clear htk hz0 HW0
      by_cases hlt : i < nl
      case neg =>
        obtain rfl : i = nl := by omega
        have hlte : decide ((i : Int) < (i : Int)) = false := by simp
        have hLT : L.take i = L := by rw [← HLl.out, List.take_length]
        rw [hLT] at HZ0
        have HR2 : Hid (RE = addE s.came n ∧ RS = if addE s.came n = 0 then { si with came := addL s.came n } else s) := Lib.hid ⟨by rw [HR.out.1, HZ0.out, if_pos rfl], by rw [HR.out.2, HZ0.out, if_pos rfl]⟩
        have hb30 := rngE_ok H.out.ok.cm
        have HC12 := rngE_len H.out.ok.cm
        have HAE : Hid (addE s.came n = if 12 < (withL s.came ⟨n, n⟩).length then 4 else 0) := Lib.hid (by unfold addE; rw [if_pos H.out.ok.cm, if_pos (mayB_iff.2 HMY.out)])
        have hsi := H.out.ok.takes (L := L) HFO.out
        have HSD := takes_data L s
        have HSM := takes_made L s
        rw [HZ0.out] at hsi HSD HSM
        have HSI := Lib.hid hsi
        have HSD2 : Hid (si.data = s.data) := Lib.hid HSD
        have HSM2 : Hid (si.made = s.made) := Lib.hid HSM
        have HWI := Lib.hid (rwith Ac s.came.length cc s.came ⟨n, n⟩ wr rfl hb30 ⟨HMY.out, HMY.out⟩ (by omega) (HRC.out.later hsr))
        have d64 : wr.cell? ⟨g, 64, none⟩ = some (.slice Ac s.came.length cc) := hsr.cell lg c64w
        have lgr := Nat.lt_of_lt_of_le lg hsr.size
        clear hLT hb30 HC12 hsi HSD HSM hlt HZ0
        trace "Z"; go_wp2_with fail
        refine HWI.out.mono ?_
        rintro e w9 ⟨A5, c5, rfl, hl5, hb5, hk5⟩
        have hs9 : Since w w9 := hsr.later hb5
        have HO9 := Lib.hid ((H.out.own.later hsr).grow' 4 rfl hb5 hl5 (fun k hk => hk5 k (blocks_zero'' hk)))
        have HTK9 := Lib.hid (HTK.out.later hb5)
        clear hl5 hb5 hk5 HWI d64 lgr
        obtain ⟨cn, hcn⟩ : ∃ x, withL s.came ⟨n, n⟩ = x := ⟨_, rfl⟩
        have HCN := Lib.hid hcn
        rw [hcn] at HAE HO9
        rw [hcn]
        obtain ⟨nw, hnw⟩ : ∃ x, cn.length = x := ⟨_, rfl⟩
        rw [hnw] at HAE HO9
        rw [hnw]
        clear hcn hnw
        by_cases h12 : 12 < nw
        · have h12' : (12 : Int) < (nw : Int) := by omega
          have HH2 : Hid (RE = 4 ∧ RS = s) := Lib.hid ⟨by rw [HR2.out.1, HAE.out, if_pos h12], by rw [HR2.out.2, HAE.out, if_pos h12, if_neg (by decide)]⟩
          trace "Z1"; go_wp2_with fail
          go_ret
          rw [HH2.out.1, HH2.out.2]
          exact ⟨rfl, Leaves.same H0.out hs9⟩
        have h12' : decide ((12 : Int) < (nw : Int)) = false := by simp; omega
        have hA0 : addE s.came n = 0 := by rw [HAE.out, if_neg h12]
        have HH2 : Hid (RE = 0 ∧ RS = { si with came := cn }) := Lib.hid ⟨by rw [HR2.out.1, hA0], by rw [HR2.out.2, if_pos hA0]; unfold addL; rw [if_pos hA0, HCN.out]⟩
        have HCO : Hid (rngE cn = 0) := Lib.hid (by have h9 := addL_ok H.out.ok.cm hA0; rw [h9.2.1, HCN.out] at h9; exact h9.1)
        have HTR : Hid (w9.rangeAt gt 0 (si.told.map Value.bool)) := Lib.hid (by have := HTK9.out.bt.range; unfold tolCells at this; simpa using this)
        have HTL : Hid ((si.told.map Value.bool).length = 60) := Lib.hid (by rw [List.length_map]; exact HSI.out.tl)
        have HTO : Hid (∀ v ∈ si.told.map Value.bool, v.oneCell' = true) := Lib.hid (fun v hv => by obtain ⟨o, _, rfl⟩ := List.mem_map.1 hv; rfl)
        have HPA : Hid (∀ vs : List Value, vs.length = 60 → BlockIs (w9.setCells g 1 vs) g 48 ((enCells s p.mv p.cv p.gi p.gl).toArray.toList.take 1 ++ vs ++ (enCells s p.mv p.cv p.gi p.gl).toArray.toList.drop (1 + vs.length)).toArray ∧ w9.there g 1 60) := Lib.hid (fun vs hvs => by
          have hb := HO9.out.blk 0 rfl
          have hl67 : (enCells s p.mv p.cv p.gi p.gl).toArray.size = 67 := by rw [List.size_toArray]; exact enCells_len _ _ _ _ H.out.ok.tl
          refine ⟨hb.putsAt (by rw [hl67, hvs]; decide), fun j hj => ?_⟩
          have := hb.there (1 + j) (by rw [hl67]; omega)
          rw [Nat.zero_add] at this
          exact this)
        obtain ⟨tc, htc⟩ : ∃ x, si.told.map Value.bool = x := ⟨_, rfl⟩
        rw [htc] at HTR HTL HTO
        have HTC := Lib.hid htc
        have HIT : Hid ((Tryz.prog.info? 42).map (·.size) = some tc.length) := Lib.hid (by rw [HTL.out]; kernel_rfl)
        have HTH : Hid (w9.there g 1 tc.toArray.size) := Lib.hid (by rw [List.size_toArray, HTL.out]; exact (HPA.out tc HTL.out).2)
        have lg9 := Nat.lt_of_lt_of_le lg hs9.size
        have lgt9 := HTK9.out.bt.lt
        have HPB := Lib.hid (HPA.out tc HTL.out).1
        clear htc hA0 h12
        trace "Z2"; go_upto_region 54 with fail
        trace "Z2a"; go_upto_region 55 with (first | (trace "Z2b"; refine wpList_load_mid rfl 42 (.tmp 10) rfl gt 0 (by go_simp) tc _ HTR.out Tryz.underlying42 rfl HIT.out ?_) | (trace "Z2c"; refine wpList_store_mid rfl 42 (.tmp 241) (.tmp 239) rfl g 1 tc.toArray (by go_simp) (by go_simp) HTH.out (by rw [HIT.out, List.size_toArray]) (all_oneCell_toArray HTO.out) ?_))
        have HOU : Hid (Out w9 (w9.setCells g 1 tc) [g]) := Lib.hid ((Out.refl w9 [g]).setCells (Or.inl (by simp)) tc 1)
        obtain ⟨w10, hw10⟩ : ∃ x, w9.setCells g 1 tc = x := ⟨_, rfl⟩
        rw [hw10] at HPB HOU
        rw [hw10]
        have hz67 : ((enCells s p.mv p.cv p.gi p.gl).toArray.toList.take 1 ++ tc ++ (enCells s p.mv p.cv p.gi p.gl).toArray.toList.drop (1 + tc.length)).toArray.size = 67 := by simp [enCells_len _ _ _ _ H.out.ok.tl, HTL.out]
        have fz10 := HPB.out.free
        have lg10 := HPB.out.lt
        obtain ⟨v61, e61⟩ := cell_ex HPB.out (k := 61) (by rw [hz67]; decide)
        obtain ⟨v63, e63⟩ := cell_ex HPB.out (k := 63) (by rw [hz67]; decide)
        obtain ⟨v64, e64⟩ := cell_ex HPB.out (k := 64) (by rw [hz67]; decide)
        clear hw10 hz67 HTH HIT HTR HTO HPA lg9 lgt9
        trace "Z2d"; go_upto_region 58 with fail
        have HB11 : Hid (BlockIs (((w10.setCell ⟨g, 61, none⟩ (.int .i64 si.may)).setCell ⟨g, 63, none⟩ (.int .i64 si.known)).setCell ⟨g, 64, none⟩ (.slice A5 nw c5)) g 48 (enCells { si with came := cn } p.mv (.slice A5 nw c5) p.gi p.gl).toArray) := Lib.hid (by
          have h1 := ((HPB.out.put 61 (.int .i64 si.may)).put 63 (.int .i64 si.known)).put 64 (.slice A5 nw c5)
          rw [← HTC.out, enCells_new p.mv p.cv (.slice A5 nw c5) p.gi p.gl H.out.ok.tl HSI.out.tl HSD2.out (cn := cn)] at h1
          exact h1)
        have HOU2 : Hid (Out w9 (((w10.setCell ⟨g, 61, none⟩ (.int .i64 si.may)).setCell ⟨g, 63, none⟩ (.int .i64 si.known)).setCell ⟨g, 64, none⟩ (.slice A5 nw c5)) [g]) := Lib.hid (((HOU.out.put (p := ⟨g, 61, none⟩) (Or.inl (by simp)) _).put (p := ⟨g, 63, none⟩) (Or.inl (by simp)) _).put (p := ⟨g, 64, none⟩) (Or.inl (by simp)) _)
        obtain ⟨w11, hw11⟩ : ∃ x, (((w10.setCell ⟨g, 61, none⟩ (.int .i64 si.may)).setCell ⟨g, 63, none⟩ (.int .i64 si.known)).setCell ⟨g, 64, none⟩ (.slice A5 nw c5)) = x := ⟨_, rfl⟩
        rw [hw11] at HB11 HOU2
        rw [hw11]
        have HO11 := Lib.hid (HO9.out.chg1 0 rfl HB11.out HOU2.out)
        clear hw11 fz10 lg10 e61 e63 e64 HPB HOU
        have hgw2 : w.heap.size ≤ w2.heap.size := hs2.size
        have hgi := H.out.qz.bl.lt
        have hgl := H.out.bl.lt
        have nG : g ≠ gs := by have := HGS.out; omega
        have nG2 : g ≠ gc := by have := HGC.out; omega
        have nI : p.gi ≠ gc := by have := HGC.out; omega
        have HBS : Hid (BlockIs w11 gs 114 (refCells si.M si.t)) := Lib.hid (HOU2.out.block' HTK9.out.bs (by simp; omega))
        have HBC : Hid (BlockIs w11 gc 88 (credCells si.W si.L si.C si.R)) := Lib.hid (HOU2.out.block' HTK9.out.bc (by simp; omega))
        have HQL : Hid ((refCells si.M si.t).toList.length = 61) := Lib.hid (by unfold refCells; simp [HSI.out.ml])
        have HQL0 : Hid ((refCells s.M s.t).size = 61) := Lib.hid (by unfold refCells; simp [H.out.ok.ml])
        have HQO : Hid (∀ v ∈ (refCells si.M si.t).toList, v.oneCell' = true) := Lib.hid (fun v hv => by
          unfold refCells at hv
          rcases List.mem_append.1 hv with hv | hv
          · obtain ⟨o, _, rfl⟩ := List.mem_map.1 hv; rfl
          · rw [List.mem_singleton.1 hv]; rfl)
        have HQR : Hid (w11.drew.rangeAt gs 0 (refCells si.M si.t).toList) := Lib.hid HBS.out.drew.range
        have HQC : Hid ((refCells si.M si.t).toList.toArray = refCells si.M si.t) := Lib.hid (by simp)
        obtain ⟨qc, hqc⟩ : ∃ x, (refCells si.M si.t).toList = x := ⟨_, rfl⟩
        rw [hqc] at HQL HQO HQR HQC
        have HIQ : Hid ((Tryz.prog.info? 114).map (·.size) = some qc.length) := Lib.hid (by rw [HQL.out]; kernel_rfl)
        have HQT : Hid (w11.drew.there p.gi 0 qc.toArray.size) := Lib.hid (by
          have h1 := (HO11.out.blk 1 rfl).drew.there
          rw [HQL0.out] at h1
          rw [List.size_toArray, HQL.out]; exact h1)
        have k65 : w11.cell? ⟨g, 65, none⟩ = some (.pointer (some ⟨p.gi, 0, none⟩)) := (HB11.out.cell 65).trans (enCells_tail (s := { si with came := cn }) _ _ _ _ HSI.out.tl 4)
        have lg11 := HB11.out.lt
        have lgs11 := HBS.out.lt
        have lgi11 := (HO11.out.blk 1 rfl).lt
        clear hqc hgw2
        trace "Z4"; go_still_tail 6, (by kernel_rfl)
        refine still_load_mid rfl 114 (.tmp 13) rfl gs 0 (by go_simp) qc _ HQR.out Tryz.underlying114 rfl HIQ.out ?_
        repeat still_step
        try refine wpStill_nil ?_
        trace "Z5"; change wpList _ _ _ _ _ w11.drew
        trace "Z6"; go_wp2_with (first | (refine wpList_store_mid rfl 114 (.tmp 259) (.tmp 258) rfl p.gi 0 qc.toArray (by go_simp) (by go_simp) HQT.out (by rw [HIQ.out, List.size_toArray]) (all_oneCell_toArray HQO.out) ?_))
        have HPU : Hid (BlockIs (w11.drew.setCells p.gi 0 qc) p.gi 114 (refCells si.M si.t)) := Lib.hid (by
          have h1 := (HO11.out.blk 1 rfl).drew.puts (vs := qc) (by rw [HQL.out, HQL0.out])
          rw [HQC.out] at h1
          exact h1)
        have HOU3 : Hid (Out w11.drew (w11.drew.setCells p.gi 0 qc) [p.gi]) := Lib.hid ((Out.refl _ _).setCells (Or.inl (by simp)) qc 0)
        have HO12 := Lib.hid (HO11.out.drew.chg1 1 rfl HPU.out HOU3.out)
        have HBC2 : Hid (BlockIs (w11.drew.setCells p.gi 0 qc) gc 88 (credCells si.W si.L si.C si.R)) := Lib.hid (HOU3.out.block' HBC.out.drew (by simp; omega))
        obtain ⟨w12, hw12⟩ : ∃ x, w11.drew.setCells p.gi 0 qc = x := ⟨_, rfl⟩
        have e12 : w11.drew.setCells p.gi 0 qc.toArray.toList = w12 := hw12
        rw [hw12] at HO12 HBC2
        (first | rw [hw12] | rw [e12])
        have k66 : w12.cell? ⟨g, 66, none⟩ = some (.pointer (some ⟨p.gl, 0, none⟩)) := ((HO12.out.blk 0 rfl).cell 66).trans (enCells_tail (s := { si with came := cn }) _ _ _ _ HSI.out.tl 5)
        have lg12 := (HO12.out.blk 0 rfl).lt
        have lgc := HBC2.out.lt
        have lgl12 := (HO12.out.blk 2 rfl).lt
        have r0 : w12.cell? ⟨gc, 0, none⟩ = some (.int .i64 si.W) := HBC2.out.cell 0
        have r1 : w12.cell? ⟨gc, 1, none⟩ = some (.int .i64 si.L) := HBC2.out.cell 1
        have r2 : w12.cell? ⟨gc, 2, none⟩ = some (.int .i64 si.C) := HBC2.out.cell 2
        have r3 : w12.cell? ⟨gc, 3, none⟩ = some (.int .i64 si.R) := HBC2.out.cell 3
        have t0' : w12.cell? ⟨p.gl, 0, none⟩ = some (.int .i64 s.W) := (HO12.out.blk 2 rfl).cell 0
        have t1' : w12.cell? ⟨p.gl, 1, none⟩ = some (.int .i64 s.L) := (HO12.out.blk 2 rfl).cell 1
        have t2' : w12.cell? ⟨p.gl, 2, none⟩ = some (.int .i64 s.C) := (HO12.out.blk 2 rfl).cell 2
        have t3' : w12.cell? ⟨p.gl, 3, none⟩ = some (.int .i64 s.R) := (HO12.out.blk 2 rfl).cell 3
        have fzl := (HO12.out.blk 2 rfl).free
        clear hw12 e12 k65 lg11 lgs11 lgi11 HPU HOU3 HBS HBC HQR HQT HIQ
        trace "Z7"; go_still_tail 6, (by kernel_rfl)
        trace "Z8"; change wpList _ _ _ _ _ w12.drew
        trace "Z9"; go_wp2_with fail
        go_ret
        rw [HH2.out.1, HH2.out.2]
        refine ⟨rfl, rnT_close (p := ⟨p.gi, p.gl, p.mv, .slice A5 nw c5, p.vs⟩) ?_ (by show p.vs.length = si.made.length; rw [HSM2.out]; exact H.out.len) ?_⟩
        · exact ⟨HSI.out.dz, HSI.out.tl, HSI.out.my, HSI.out.md, HSI.out.kn, HCO.out, HSI.out.ml, HSI.out.tt, HSI.out.cr, HSI.out.rt, HSI.out.mc⟩
        · have o := (((HO12.out.drew.put 2 rfl 0 (.int .i64 si.W)).put 2 rfl 1 (.int .i64 si.L)).put 2 rfl 2 (.int .i64 si.C)).put 2 rfl 3 (.int .i64 si.R)
          unfold rnParts at o ⊢
          rw [show ({ si with came := cn } : EnS).made = s.made from HSM2.out]
          exact o
      have hlt' : (i : Int) < (nl : Int) := by omega
      obtain ⟨bf, off, hA, hltb, hcf⟩ := HF2.out.agg_at hn1 hlt
      subst hA
      obtain ⟨f0, f1, f2⟩ := hcf wr hs2r
      have lbf : bf < wr.heap.size := Nat.lt_of_lt_of_le hltb hs2r.size
      have hfin := HF2.out.each _ (List.getElem_mem (show i < Ms.length by omega))
      have hiL : i < L.length := by rw [HLl.out]; exact hlt
      have hLi : L[i] = Ms[i].f := by
        have h1 : (Ms.map (·.f))[i]? = some Ms[i].f := by rw [List.getElem?_map, List.getElem?_eq_getElem]; rfl
        rw [HM1.out, List.getElem?_eq_getElem hiL] at h1
        exact Option.some.inj h1
      have hfr : frmE Ms[i].f = 0 := by rw [← hLi]; exact HFO.out _ (List.getElem_mem hiL)
      have HTS := Lib.hid (takes_succ hiL (by rw [HZ0.out]))
      rw [hLi, HZ0.out] at HTS
      have HCF := Lib.hid (fun X hX => hcf X hX)
      obtain ⟨q, hq⟩ : ∃ q, Ms[i] = q := ⟨_, rfl⟩
      rw [hq] at f0 f1 f2 hfin hfr HTS HCF
      have HOK : Hid (EnOk si) := Lib.hid (by
        have h1 := H.out.ok.takes (L := L.take i) (fun f hf => HFO.out f (List.mem_of_mem_take hf))
        rw [HZ0.out] at h1
        exact h1)
      have HMD : Hid (si.made = s.made) := Lib.hid (by
        have h1 := takes_made (L.take i) s
        rw [HZ0.out] at h1
        exact h1)
      obtain ⟨⟨fk, fn, fd⟩, fA, fc⟩ := q
      dsimp only at f0 f1 f2 HTS HCF
      have HERR : Hid (si.take1E ⟨fk, fn, fd⟩ ≠ 0 → RE = si.take1E ⟨fk, fn, fd⟩ ∧ RS = s) := Lib.hid (fun hE5 => by
        have h1 : (s.takes L).1 = si.take1E ⟨fk, fn, fd⟩ := by rw [takes_stop (i := i + 1) (by rw [HTS.out]; exact hE5), HTS.out]
        rw [HR.out.1, HR.out.2, h1, if_neg hE5, if_neg hE5]
        exact ⟨rfl, rfl⟩)
      clear hq hLi hiL hcf HZ0
      trace "K"; repeat ((fail_if_success (with_reducible refine stop_blk 1 ?_)); first | fail | go_values | go_skip | go_guarded | go_step | go_upon | go_back | go_simp)
      go_step
      trace "K1"; refine wp_cut (SC g b n (some ⟨bf, off, none⟩) nl cl gt gs gc (si.take1E ⟨fk, fn, fd⟩) (si.take1 ⟨fk, fn, fd⟩) i w2) ?_ ?_
      rotate_left
      next =>
        intro _ _ _ _
        by_cases h2 : fk = 2
        case pos =>
          subst h2
          have HT := Lib.hid (take1_two (s := si) (f := ⟨2, fn, fd⟩) rfl)
          have h4 := frm_two hfr rfl
          dsimp only at h4 HT
          obtain ⟨R, hR⟩ : ∃ R, pairs fn = R := ⟨_, rfl⟩
          rw [hR] at HT h4
          obtain ⟨K, hK⟩ : ∃ K, R.length = K := ⟨_, rfl⟩
          rw [hK] at h4
          have HKK := Lib.hid hK
          have hK0 := h4.2.1
          have hK12 := h4.2.2.2
          have HRE := Lib.hid h4.1
          have HRG := Lib.hid (fun (X : World) (hX : Since w2 X) => rrngs fA fc fn K X (hfin.nums.keep hX) h4.2.2.1 h4.2.1 h4.2.2.2)
          rw [hR] at HRG
          obtain ⟨E1, hE1⟩ : ∃ E, si.take1E ⟨2, fn, fd⟩ = E := ⟨_, rfl⟩
          obtain ⟨S1, hS1⟩ : ∃ E, si.take1 ⟨2, fn, fd⟩ = E := ⟨_, rfl⟩
          rw [hE1, hS1] at HT
          rw [hE1] at HERR
          have HQ1 := Lib.hid hE1
          have HQ2 := Lib.hid hS1
          clear h4 hfin hfr hR hK hE1 hS1 HTS HCF
          trace "K2"; go_wp2_with fail
          refine (HRG.out _ hs2r).mono ?_
          rintro e w6 ⟨Ar, cr, rfl, hl6, hb6⟩
          have hs26 : Since w2 w6 := hs2r.later hb6
          have hs6 : Since w w6 := hs2.later hs26
          have HL6 := Lib.hid hl6
          have HTK6 := Lib.hid (HTK.out.later hb6)
          have H6 := Lib.hid (H.out.later hs6)
          obtain ⟨qr, hAr⟩ : ∃ qr, Ar = some ⟨qr, 0, none⟩ := by
            obtain ⟨A9, c9, e9, _, _, h9⟩ := hl6.shape
            simp only [Value.slice.injEq] at e9
            rcases h9 with ⟨_, h9, _⟩ | ⟨g9, h9⟩
            · have := congrArg List.length h9
              rw [List.length_map, HKK.out] at this
              simp at this; omega
            · exact ⟨g9, e9.1.trans h9⟩
          subst hAr
          have HRW : Hid (∀ X, Out w6 X [gt] → ∀ k, k < K → X.cell? ⟨qr, k * 2, none⟩ = some (.int .i64 (rat R k).lo) ∧ X.cell? ⟨qr, k * 2 + 1, none⟩ = some (.int .i64 (rat R k).hi) ∧ qr < X.heap.size) := Lib.hid (fun X hX k hk => by
            have h1 := HL6.out.other HTK6.out.bt (by decide) hX
            have he := elem_of_rng (L := R) (i := k) (by rw [HKK.out]; exact hk)
            have c0 := h1.cell rfl he (j := 0) rfl
            have c1 := h1.cell rfl he (j := 1) rfl
            rw [rat_get (by rw [HKK.out]; exact hk)]
            exact ⟨by simpa using c0, by simpa using c1, h1.lt qr (by rw [blocks_at]; simp)⟩)
          obtain ⟨gm0, cm, hmv, -, -, -⟩ := H.out.lm.shape
          rw [List.length_map, H.out.len] at hmv
          have HMV := Lib.hid hmv
          have d62 : w6.cell? ⟨g, 62, none⟩ = some (.slice gm0 s.made.length cm) := by rw [← hmv]; exact H6.out.c62
          have lg6 := H6.out.bg.lt
          obtain ⟨r00, r01, lqr⟩ := HRW.out w6 (Out.refl _ _) 0 hK0
          rw [Nat.zero_mul] at r00 r01
          rw [Nat.zero_add] at r01
          have hng0 : (0 : Int) < (K : Int) := by omega
          clear hl6 hb6 hs2r hsr f0 f1 f2 lbf hmv HTK HRG
          by_cases hbig : (s.made.length : Int) ≤ (rat R 0).hi
          case pos =>
            as_aux_lemma =>
              have HH2 : Hid (E1 = 6) := Lib.hid (by rw [HT.out.1]; unfold EnS.ackE; rw [HMD.out, if_pos hbig])
              have HH3 := HERR.out (by rw [HH2.out]; decide)
              rw [HH2.out] at HH3
              have HH4 := Lib.hid HH3
              generalize rat R 0 = r at *
              clear HH3
              trace "L1"; go_wp2_with fail
              go_quiet (fail)
              trace "L2"; go_wp2_with fail
              go_ret
              rw [HH4.out.1, HH4.out.2]
              exact ⟨rfl, Leaves.same H0.out (hs6.drewN _)⟩
          have hbig' : decide ((s.made.length : Int) ≤ (rat R 0).hi) = false := by simpa using hbig
          have HH2 : Hid (E1 = 0 ∧ S1 = { si with told := tellRs s.made si.told R, known := max si.known (rat R 0).hi }) := Lib.hid ⟨by rw [HT.out.1]; unfold EnS.ackE; rw [HMD.out, if_neg hbig], by rw [HT.out.2]; unfold EnS.ack; rw [HMD.out, if_neg hbig]⟩
          have HLE : Hid (∀ k, k < K → 0 ≤ (rat R k).lo ∧ (rat R k).lo ≤ (rat R k).hi ∧ (rat R k).hi < s.made.length) := Lib.hid (fun k hk => by
            have hr : rat R k ∈ R := by rw [rat_get (by rw [HKK.out]; exact hk)]; exact List.getElem_mem _
            obtain ⟨p1, p2⟩ := rngE_ok HRE.out _ hr
            have p3 := (rngE_canon HRE.out).ok _ hr
            have p4 := came_top HRE.out (inB_iff.2 ⟨_, hr, p3, Int.le_refl _⟩)
            omega)
          have hbig2 : (rat R 0).hi < (s.made.length : Int) := by omega
          obtain ⟨h0x, hh0⟩ : ∃ z, (rat R 0).hi = z := ⟨_, rfl⟩
          rw [hh0] at r01 hbig' hbig2 HH2
          have HH0 := Lib.hid hh0
          clear hbig hh0
          trace "L3"; go_wp2_with fail
          go_quiet (fail)
          trace "L4"; go_wp2_with fail
          have M6 : MadeIs w6 p.mv p.vs s.made := ⟨H6.out.len, H6.out.lm, fun i v ps h1 h2 => H6.out.lp h1 h2⟩
          have HMA : Hid (∀ m, m < s.made.length → ∃ gm Ap cp, gm0 = some ⟨gm, 0, none⟩ ∧ ∀ X, Out w6 X [gt] → X.cell? ⟨g, 62, none⟩ = some (.slice gm0 s.made.length cm) ∧ X.cell? ⟨gm, m, none⟩ = some (.slice Ap (s.made.getD m []).length cp) ∧ Lst X 98 2 (.slice Ap (s.made.getD m []).length cp) ((s.made.getD m []).map pcRow) ∧ g < X.heap.size ∧ gm < X.heap.size) := Lib.hid (fun m hm => by
            have hvl : m < p.vs.length := by rw [M6.len]; exact hm
            have hv := List.getElem?_eq_getElem hvl
            have hp := List.getElem?_eq_getElem hm
            have hgd : s.made.getD m [] = s.made[m] := by simp [List.getD, hp]
            obtain ⟨Ap, cp, e1, -, -, -⟩ := (M6.lp m _ _ hv hp).shape
            rw [List.length_map] at e1
            have hgm : ∃ gm, gm0 = some ⟨gm, 0, none⟩ := by
              obtain ⟨A9, c9, e9, _, _, h9⟩ := M6.lm.shape
              rw [HMV.out] at e9
              simp only [Value.slice.injEq] at e9
              rcases h9 with ⟨_, h9, _⟩ | ⟨g9, h9⟩
              · have := congrArg List.length h9
                rw [List.length_map] at this
                simp at this
                omega
              · exact ⟨g9, e9.1.trans h9⟩
            obtain ⟨gm, rfl⟩ := hgm
            refine ⟨gm, Ap, cp, rfl, fun X hX => ?_⟩
            have MX := M6.other HTK6.out.bt (by decide) (by decide) hX
            have hbg := hX.block' H6.out.bg (by
              have h1 := HGT.out
              have h2 := hs2.size
              simp
              omega)
            have hc := MX.lm
            rw [HMV.out] at hc
            have hcell := hc.cell rfl (single_get hv) (j := 0) rfl
            have hgl := hc.lt gm (by rw [blocks_at]; simp)
            rw [hgd, ← e1]
            refine ⟨by rw [← HMV.out]; exact (hbg.cell 62).trans (enCells_tail _ _ _ _ H.out.ok.tl 1), by simpa using hcell, MX.lp m _ _ hv hp, hbg.lt, hgl⟩)
          have HMB : Hid (∀ m, ∀ pc ∈ s.made.getD m [], pc.at_ + pc.d.size ≤ 60) := Lib.hid (fun m pc hpc => by
            by_cases hm : m < s.made.length
            · have hgd : s.made.getD m [] = s.made[m] := by simp [List.getD, List.getElem?_eq_getElem hm]
              rw [hgd] at hpc
              exact (H.out.ok.md _ (List.getElem_mem hm)).2 pc hpc
            · have hgd : s.made.getD m [] = [] := by simp [List.getD, List.getElem?_eq_none (Nat.le_of_not_lt hm)]
              rw [hgd] at hpc; simp at hpc)
          have HM3 : Hid (∀ m, (s.made.getD m []).length ≤ 3) := Lib.hid (fun m => by
            by_cases hm : m < s.made.length
            · have hgd : s.made.getD m [] = s.made[m] := by simp [List.getD, List.getElem?_eq_getElem hm]
              rw [hgd]; exact (H.out.ok.md _ (List.getElem_mem hm)).1
            · have hgd : s.made.getD m [] = [] := by simp [List.getD, List.getElem?_eq_none (Nat.le_of_not_lt hm)]
              rw [hgd]; simp)
          have HT60 : Hid (∀ T : List Bool, T.length = 60 → ∀ X, BlockIs X gt 42 (tolCells T) → ∀ z, z < 60 → ∃ v, X.cell? ⟨gt, z, none⟩ = some v) := Lib.hid (fun T hT X hX z hz => cell_ex hX (by unfold tolCells; simp; omega))
          have HTL := HOK.out.tl
          obtain ⟨M, hM⟩ : ∃ M, s.made = M := ⟨_, rfl⟩
          rw [hM] at HLE HMA HMB HM3 hbig2 HH2 h1000
          have HMM := Lib.hid hM
          clear M6 r00 r01 lqr d62 lg6 hM hbig' hbig2
          trace "L5"; refine wp_loop (LK g b n (some ⟨bf, off, none⟩) nl cl gt gs gc si.may i (some ⟨qr, 0, none⟩) K cr si.known M si.told R w6) (LKM K) ?_ ?_
          next => exact ⟨0, ⟨by omega, by rw [List.take_zero]; exact HTK6.out.bt.drewN _, (Out.refl _ _).drewN _⟩, _, _, _, _, _, _, _, _, _, _, _, _, _, (by kernel_rfl), rfl⟩
          next =>
            intro a' wk hinv
            obtain ⟨k, ⟨hk, hbk, hok⟩, t2, t3, t4, t5, t8, t9, t18, t19, t20, t21, t22, t23, U, hU, rfl⟩ := hinv
            obtain ⟨u, rfl⟩ := growTail hU; clear hU
            have HBK := Lib.hid hbk
            have HOK2 := Lib.hid hok
            clear hbk hok
            by_cases hkl : k < K
            case neg =>
              as_aux_lemma =>
                obtain rfl : k = K := by omega
                have hkl' : decide ((k : Int) < (k : Int)) = false := by simp
                obtain ⟨-, r01, lqr⟩ := HRW.out wk HOK2.out 0 hK0
                rw [Nat.zero_mul, Nat.zero_add, HH0.out] at r01
                have HTK : Hid (TkW w2 wk gt gs gc { si with told := tellRs M si.told R }) := Lib.hid (HTK6.out.told (Nat.le_of_eq HGT.out) (by have := HBK.out; rw [show R.take k = R by rw [← HKK.out, List.take_length]] at this; exact this) HOK2.out)
                clear hkl
                by_cases hmx : si.known < h0x
                · have hMX : Hid (max si.known h0x = h0x) := Lib.hid (by omega)
                  trace "M1"; go_wp2_with fail
                  refine Met.intro ?_
                  go_step
                  unfold SC
                  rw [HQ1.out, HQ2.out, HH2.out.1, HH2.out.2]
                  dsimp only
                  rw [hMX.out]
                  exact ⟨⟨rfl, HTK.out.as rfl rfl rfl rfl rfl rfl rfl⟩, _, _, _, _, _, _, _, _, _, _, _, _, _, _, _, (by kernel_rfl), rfl⟩
                · have hMX : Hid (max si.known h0x = si.known) := Lib.hid (by omega)
                  have hmx' : decide (si.known < h0x) = false := by simpa using hmx
                  clear hmx
                  trace "M2"; go_wp2_with fail
                  refine Met.intro ?_
                  go_step
                  unfold SC
                  rw [HQ1.out, HQ2.out, HH2.out.1, HH2.out.2]
                  dsimp only
                  rw [hMX.out]
                  exact ⟨⟨rfl, HTK.out.as rfl rfl rfl rfl rfl rfl rfl⟩, _, _, _, _, _, _, _, _, _, _, _, _, _, _, _, (by kernel_rfl), rfl⟩
            have hkl' : (k : Int) < (K : Int) := by omega
            obtain ⟨r0, r1, lq⟩ := HRW.out wk HOK2.out k hkl
            obtain ⟨q1, q2, q3⟩ := HLE.out k hkl
            obtain ⟨lo, hlo⟩ : ∃ lo : Nat, (rat R k).lo = lo := Int.eq_ofNat_of_zero_le q1
            obtain ⟨hi', hhi⟩ : ∃ h : Nat, (rat R k).hi = h := Int.eq_ofNat_of_zero_le (Int.le_trans q1 q2)
            have HRK : Hid (∀ X, Out w6 X [gt] → X.cell? ⟨qr, k * 2, none⟩ = some (.int .i64 lo) ∧ X.cell? ⟨qr, k * 2 + 1, none⟩ = some (.int .i64 hi') ∧ qr < X.heap.size) := Lib.hid (fun X hX => by have := HRW.out X hX k hkl; rw [hlo, hhi] at this; exact this)
            rw [hlo] at r0 q1 q2
            rw [hhi] at r1 q2 q3
            have HPC : Hid (pcsOf M (rat R k) = ((M.take (hi' + 1)).drop lo).flatten) := Lib.hid (by unfold pcsOf; rw [hlo, hhi]; rfl)
            have HRS := Lib.hid (rs_succ (M := M) (T := si.told) (show k < R.length by rw [HKK.out]; exact hkl))
            rw [HPC.out] at HRS
            have HT0 : Hid ((tellRs M si.told (R.take k)).length = 60) := Lib.hid (by rw [tellRs_len]; exact HTL)
            obtain ⟨Tk, hTk⟩ : ∃ T, tellRs M si.told (R.take k) = T := ⟨_, rfl⟩
            rw [hTk] at HRS HBK HT0
            have hh2 : hi' ≤ 1000 := by omega
            have HHM : Hid (hi' < M.length) := Lib.hid (by omega)
            have HLH : Hid (lo ≤ hi') := Lib.hid (by omega)
            clear hTk hlo hhi q1 q2 q3
            trace "N1"; go_wp2_with fail
            trace "N2"; refine wp_loop (LQ g b n (some ⟨bf, off, none⟩) nl cl gt gs gc si.may i (some ⟨qr, 0, none⟩) K cr si.known k M Tk lo hi' w6) (LQM hi') ?_ ?_
            next => exact ⟨lo, ⟨Nat.le_refl _, by have := HLH.out; omega, by rw [show ((M.take lo).drop lo).flatten = [] by simp]; exact HBK.out, HOK2.out⟩, _, _, _, _, _, _, _, _, _, _, _, _, (by kernel_rfl), rfl⟩
            next =>
              clear HBK HOK2 r0 r1 lq
              intro a' wm hinv
              obtain ⟨m, ⟨hm1, hm2, hbm, hom⟩, t2, t3, t4, t5, t8, t9, t19, t20, t21, t22, t23, U, hU, rfl⟩ := hinv
              obtain ⟨u, rfl⟩ := growTail hU; clear hU
              have HBM := Lib.hid hbm
              have HOM := Lib.hid hom
              obtain ⟨-, r1, lq⟩ := HRK.out wm hom
              clear hbm hom
              by_cases hml : m ≤ hi'
              case neg =>
                have hml' : decide ((m : Int) ≤ (hi' : Int)) = false := by simp; omega
                have hml2 : (hi' : Int) < (m : Int) := by omega
                have HB2 : Hid (BlockIs wm gt 42 (tolCells (tellRs M si.told (R.take (k + 1))))) := Lib.hid (by have := HBM.out; rw [show m = hi' + 1 by omega] at this; rw [HRS.out]; exact this)
                trace "N3"; go_wp2_with fail
                refine ⟨⟨k + 1, ⟨by omega, HB2.out, HOM.out⟩, _, _, _, _, _, _, _, _, _, _, _, _, _, (by kernel_rfl), rfl⟩, ?_⟩
                simp [LKM, intOf]
                omega
              have hml' : (m : Int) ≤ (hi' : Int) := by omega
              have hmM : m < M.length := by have := HHM.out; omega
              obtain ⟨gm, Ap, cp, hgm, hma⟩ := HMA.out m hmM
              have HMX := Lib.hid hma
              have hP3 := HM3.out m
              have HPB := Lib.hid (HMB.out m)
              have HMS : Hid (tellPcs Tk (((M.take (m + 1)).drop lo).flatten) = tellPcs (tellPcs Tk (((M.take m).drop lo).flatten)) (M.getD m [])) := Lib.hid (by rw [made_succ hm1 hmM]; simp [List.getD, List.getElem?_eq_getElem hmM])
              have HT1 : Hid ((tellPcs Tk (((M.take m).drop lo).flatten)).length = 60) := Lib.hid (by rw [tellPcs_len]; exact HT0.out)
              obtain ⟨Tm, hTm⟩ : ∃ T, tellPcs Tk (((M.take m).drop lo).flatten) = T := ⟨_, rfl⟩
              obtain ⟨P, hP⟩ : ∃ P, M.getD m [] = P := ⟨_, rfl⟩
              rw [hTm] at HMS HBM HT1
              rw [hP] at HMS HMX hP3 HPB
              obtain ⟨np, hnp⟩ : ∃ np, P.length = np := ⟨_, rfl⟩
              have HNP := Lib.hid hnp
              rw [hnp] at HMX hP3
              have hmm : m ≤ 1000 := by omega
              have hm0 : (m : Int) < ((M.length : Nat) : Int) := by omega
              obtain ⟨nM, hnM⟩ : ∃ x, M.length = x := ⟨_, rfl⟩
              rw [hnM] at HMX hm0
              subst hgm
              clear hma hTm hP hnp hnM
              trace "O1"; go_wp2_with fail
              trace "O2"; refine wp_loop (LJ g b n (some ⟨bf, off, none⟩) nl cl gt gs gc si.may i (some ⟨qr, 0, none⟩) K cr si.known k m Tm P w6) (LJM np) ?_ ?_
              next => exact ⟨0, ⟨Nat.zero_le _, by rw [List.take_zero]; exact HBM.out, HOM.out⟩, _, _, _, _, _, _, _, _, _, _, _, (by kernel_rfl), rfl⟩
              next =>
                clear HBM HOM r1 lq
                intro a' wj hinv
                obtain ⟨j, ⟨hj, hbj, hoj⟩, t2, t3, t4, t5, t8, t9, t20, t21, t22, t23, U, hU, rfl⟩ := hinv
                obtain ⟨u, rfl⟩ := growTail hU; clear hU
                have HBJ := Lib.hid hbj
                have HOJ := Lib.hid hoj
                obtain ⟨c62, cgm, hlp, lgj, lgmj⟩ := HMX.out wj hoj
                have HLP := Lib.hid hlp
                rw [HNP.out] at hj
                clear hbj hoj hlp
                by_cases hjl : j < np
                case neg =>
                  obtain rfl : j = np := by omega
                  have hjl' : decide ((j : Int) < (j : Int)) = false := by simp
                  have HB2 : Hid (BlockIs wj gt 42 (tolCells (tellPcs Tk (((M.take (m + 1)).drop lo).flatten)))) := Lib.hid (by have := HBJ.out; rw [show P.take j = P by rw [← HNP.out, List.take_length]] at this; rw [HMS.out]; exact this)
                  trace "O3"; go_wp2_with fail
                  refine ⟨⟨m + 1, ⟨by omega, by omega, HB2.out, HOJ.out⟩, _, _, _, _, _, _, _, _, _, _, _, _, (by kernel_rfl), rfl⟩, ?_⟩
                  simp [LQM, intOf]
                  omega
                have hjl' : (j : Int) < (np : Int) := by omega
                have hjP : j < P.length := by rw [HNP.out]; exact hjl
                obtain ⟨b2, hA2, lb2, p0, p1⟩ := HLP.out.pc hjP
                have hp60 := HPB.out _ (List.getElem_mem hjP)
                have HPS := Lib.hid (pcs_succ hjP Tm)
                have HT2 : Hid ((tellPcs Tm (P.take j)).length = 60) := Lib.hid (by rw [tellPcs_len]; exact HT1.out)
                obtain ⟨Tj, hTj⟩ : ∃ T, tellPcs Tm (P.take j) = T := ⟨_, rfl⟩
                obtain ⟨⟨at_, d⟩, hpp⟩ : ∃ p, P[j] = p := ⟨_, rfl⟩
                rw [hTj] at HPS HBJ HT2
                rw [hpp] at p0 p1 hp60 HPS
                dsimp only at p0 p1 hp60 HPS
                subst hA2
                clear hpp hTj hjP
                trace "P1"; go_wp2_with fail
                have hgt2 := HBJ.out.lt
                have HSA : Hid (BlockIs (wj.alloc (.cells #[.int .i64 at_, .string d] 98)) gt 42 (tolCells (tellN Tj at_ 0)) ∧ BlockIs (wj.alloc (.cells #[.int .i64 at_, .string d] 98)) wj.heap.size 98 #[.int .i64 at_, .string d] ∧ Out w6 (wj.alloc (.cells #[.int .i64 at_, .string d] 98)) [gt]) := Lib.hid ⟨HBJ.out.alloc _, BlockIs.fresh _ _ _, HOJ.out.alloc _⟩
                obtain ⟨w8, hw8⟩ : ∃ x, wj.alloc (.cells #[.int .i64 at_, .string d] 98) = x := ⟨_, rfl⟩
                obtain ⟨gp, hgp⟩ : ∃ x, wj.heap.size = x := ⟨_, rfl⟩
                rw [hw8, hgp] at HSA
                rw [hw8, hgp]
                have HNE : Hid (gt ≠ gp) := Lib.hid (by omega)
                clear hw8 hgp hgt2 c62 cgm lgj lgmj lb2 p0 p1 HBJ HOJ HLP
                trace "P2"; refine wp_loop (LB g b n (some ⟨bf, off, none⟩) nl cl gt gs gc si.may i (some ⟨qr, 0, none⟩) K cr si.known k m j gp Tj at_ d w6) (LBM d.size) ?_ ?_
                next => exact ⟨0, ⟨Nat.zero_le _, HSA.out.1, HSA.out.2.1, HSA.out.2.2⟩, _, _, _, _, _, _, _, _, _, (by kernel_rfl), rfl⟩
                next =>
                  clear HSA
                  intro a' wq hinv
                  obtain ⟨q, ⟨hq, hbq, hpq, hoq⟩, t2, t3, t4, t5, t8, t9, t22, t23, U, hU, rfl⟩ := hinv
                  obtain ⟨u, rfl⟩ := growTail hU; clear hU
                  have HBQ := Lib.hid hbq
                  have HPQ := Lib.hid hpq
                  have HOQ := Lib.hid hoq
                  have g0 : wq.cell? ⟨gp, 0, none⟩ = some (.int .i64 at_) := hpq.cell 0
                  have g1 : wq.cell? ⟨gp, 1, none⟩ = some (.string d) := hpq.cell 1
                  have lp := hpq.lt
                  have lgt := hbq.lt
                  have fgt := hbq.free
                  have ltn : (tellN Tj at_ q).length = 60 := by rw [tellN_len]; exact HT2.out
                  clear hbq hpq hoq
                  by_cases hql : q < d.size
                  case neg =>
                    obtain rfl : q = d.size := by omega
                    have hql' : decide ((d.size : Int) < (d.size : Int)) = false := by simp
                    have HB2 : Hid (BlockIs wq gt 42 (tolCells (tellPcs Tm (P.take (j + 1))))) := Lib.hid (by rw [HPS.out]; exact HBQ.out)
                    clear ltn fgt
                    trace "P3"; go_wp2_with fail
                    refine ⟨⟨j + 1, ⟨by rw [HNP.out]; omega, HB2.out, HOQ.out⟩, _, _, _, _, _, _, _, _, _, _, _, (by kernel_rfl), rfl⟩, ?_⟩
                    simp [LJM, intOf]
                    omega
                  have hql' : (q : Int) < (d.size : Int) := by omega
                  obtain ⟨v9, e9⟩ := HT60.out _ ltn wq HBQ.out (at_ + q) (by omega)
                  have hwq : IntKind.i64.wrap ((at_ : Int) + (q : Int)) = (at_ : Int) + (q : Int) := IntWalk.i64_in _ (by omega)
                  have haq0 : (0 : Int) ≤ (at_ : Int) + (q : Int) := by omega
                  have haq1 : (at_ : Int) + (q : Int) < 60 := by omega
                  have haqn : ((at_ : Int) + (q : Int)).toNat = at_ + q := by omega
                  have HPUT := Lib.hid (tol_put HBQ.out)
                  clear ltn
                  trace "P4"; go_wp2_with fail
                  refine ⟨⟨q + 1, ⟨by omega, HPUT.out, HPQ.out.far HNE.out.symm _, HOQ.out.put (p := ⟨gt, at_ + q, none⟩) (Or.inl (by simp)) _⟩, _, _, _, _, _, _, _, _, _, (by kernel_rfl), rfl⟩, ?_⟩
                  simp [LBM, intOf]
                  omega
        have k2 : (fk == 2) = false := by simpa using h2
        by_cases h4 : fk = 4
        case pos =>
          as_aux_lemma =>
            subst h4
            obtain ⟨hn, hmb⟩ := frm_four hfr rfl
            dsimp only at hn hmb
            obtain ⟨z, hz⟩ : ∃ z, ith fn 0 = z := ⟨_, rfl⟩
            rw [hz] at hn hmb
            have hnum := hfin.nums
            subst hn
            obtain ⟨-, A1, c1, hv, -, -, hcc⟩ := hnum
            simp only [FrmV.v, Value.slice.injEq] at hv
            obtain ⟨b', off', hA, hlt4, hc⟩ := hcc (by simp)
            have hA' : fA = some ⟨b', off', none⟩ := hv.1.trans hA
            subst hA'
            have hc0 : wr.cell? ⟨b', off', none⟩ = some (.int .i64 z) := hs2r.cell hlt4 (hc 0 (by simp))
            have lb' : b' < wr.heap.size := Nat.lt_of_lt_of_le hlt4 hs2r.size
            have HT : Hid (si.take1E ⟨4, [z], fd⟩ = 0 ∧ si.take1 ⟨4, [z], fd⟩ = { si with may := max si.may z }) := Lib.hid ⟨rfl, rfl⟩
            clear hc hcc hv hA hfin hfr h2
            by_cases hmz : si.may < z
            · have HMX : Hid (max si.may z = z) := Lib.hid (by omega)
              trace "M"; go_wp2_with fail
              refine Met.intro ?_
              go_step
              unfold SC
              rw [HT.out.1, HT.out.2]
              dsimp only
              rw [HMX.out]
              exact ⟨⟨rfl, HTK.out.as rfl rfl rfl rfl rfl rfl rfl⟩, _, _, _, _, _, _, _, _, _, _, _, _, _, _, _, (by kernel_rfl), rfl⟩
            · have HMX : Hid (max si.may z = si.may) := Lib.hid (by omega)
              have hmz' : decide (si.may < z) = false := by simpa using hmz
              clear hmz
              trace "N"; go_wp2_with fail
              refine Met.intro ?_
              go_step
              unfold SC
              rw [HT.out.1, HT.out.2]
              dsimp only
              rw [HMX.out]
              exact ⟨⟨rfl, HTK.out.as rfl rfl rfl rfl rfl rfl rfl⟩, _, _, _, _, _, _, _, _, _, _, _, _, _, _, _, (by kernel_rfl), rfl⟩
        have k4 : (fk == 4) = false := by simpa using h4
        by_cases h3 : fk = 3
        case neg =>
          as_aux_lemma =>
            have k3 : (fk == 3) = false := by simpa using h3
            have HT : Hid (si.take1E ⟨fk, fn, fd⟩ = 3) := Lib.hid (by unfold EnS.take1E; rw [if_neg h2, if_neg h4, if_neg h3])
            have HH2 := HERR.out (by rw [HT.out]; decide)
            rw [HT.out] at HH2
            have HH3 := Lib.hid HH2
            clear HH2 h2 h3 h4 hfin hfr
            trace "O"; go_wp2_with fail
            go_ret
            rw [HH3.out.1, HH3.out.2]
            exact ⟨rfl, Leaves.same H0.out hsr⟩
        case pos =>
          subst h3
          obtain ⟨hn, hmb, hd20⟩ := frm_three hfr rfl
          dsimp only at hn hmb hd20
          obtain ⟨z, hz⟩ : ∃ z, ith fn 0 = z := ⟨_, rfl⟩
          rw [hz] at hn hmb
          have hnum := hfin.nums
          subst hn
          obtain ⟨-, A1, c1, hv, -, -, hcc⟩ := hnum
          simp only [FrmV.v, Value.slice.injEq] at hv
          obtain ⟨b', off', hA, hlt4, hc⟩ := hcc (by simp)
          have hA' : fA = some ⟨b', off', none⟩ := hv.1.trans hA
          subst hA'
          have HC0 : Hid (∀ X, Since w2 X → X.cell? ⟨b', off', none⟩ = some (.int .i64 z) ∧ b' < X.heap.size) := Lib.hid (fun X hX => ⟨hX.cell hlt4 (hc 0 (by simp)), Nat.lt_of_lt_of_le hlt4 hX.size⟩)
          obtain ⟨hc0, lb'⟩ := HC0.out wr hs2r
          have hmb' := hmb
          unfold MayBe at hmb'
          have hwr : IntKind.i64.wrap (z + (fd.size : Int)) = z + (fd.size : Int) := IntWalk.i64_in _ (by omega)
          have HEE : Hid (si.take1E ⟨3, [z], fd⟩ = if takeE si.L (z + fd.size) = 0 then putE si.M z fd.data.toList else takeE si.L (z + fd.size)) := Lib.hid rfl
          have HTE : Hid (si.take1 ⟨3, [z], fd⟩ = if takeE si.L (z + fd.size) = 0 then { si with C := maxN si.C (z + fd.size), M := putM si.M z fd.data.toList } else si) := Lib.hid rfl
          have HCT := Lib.hid (fun (X : World) (hX : Since wr X) => rtake_any gc si.W si.L si.C si.R (z + fd.size) X (HTK.out.later hX).bc)
          clear hc hcc hv hA hfin hfr h2 h4 k2 k4 hmb
          trace "P"; go_upto_region 46 with fail
          refine wp_cut (S3 g b n (some ⟨bf, off, none⟩) nl cl gt gs gc si { si with C := tC si.L si.C (z + fd.size) } i (takeE si.L (z + fd.size)) w2) ?_ ?_
          rotate_left
          next =>
            as_aux_lemma =>
              intro _ _ _ _
              have hsd : Since wr wr.drew := (Since.refl wr).drew
              trace "P1"; go_still_tail 14, (by kernel_rfl)
              trace "P1A"; change wpList _ _ _ _ _ wr.drew
              trace "P1B"; go_wp2_with (go_at_call 62; refine (HCT.out _ hsd).mono ?_; rintro e w6 ⟨rfl, hb6, ho6⟩)
              refine Met.intro ?_
              trace "P2"; go_step
              exact ⟨((HTK.out.later hsd).cred HGC.out hb6 (Out.of_only ho6)), _, _, _, _, _, _, _, _, _, _, _, _, _, _, (by kernel_rfl), rfl⟩
          intro a' w6 hinv
          obtain ⟨htk6, t2, t3, t4, t5, t8, t9, t16, t17, t18, t19, t20, t21, t23, U, hU, rfl⟩ := hinv
          obtain ⟨u, rfl⟩ := growTail hU; clear hU
          have HTK6 := Lib.hid htk6
          have hs26 : Since w2 w6 := htk6.since
          obtain ⟨g0, g1, g2⟩ := HCF.out w6 hs26
          obtain ⟨hc6, lb6⟩ := HC0.out w6 hs26
          have lbf6 : bf < w6.heap.size := Nat.lt_of_lt_of_le hltb hs26.size
          clear htk6 f0 f1 f2 hc0 lb' lbf hs2r hsr HTK HCT
          by_cases hT : takeE si.L (z + fd.size) = 0
          case neg =>
            as_aux_lemma =>
              have HE2 : Hid (si.take1E ⟨3, [z], fd⟩ = takeE si.L (z + fd.size)) := Lib.hid (by rw [HEE.out, if_neg hT])
              have HH2 := HERR.out (by rw [HE2.out]; exact hT)
              rw [HE2.out] at HH2
              have HH3 := Lib.hid HH2
              obtain ⟨ee, hee⟩ : ∃ e, takeE si.L (z + fd.size) = e := ⟨_, rfl⟩
              rw [hee] at HH3 hT
              rw [hee]
              have hne : (ee == 0) = false := by simpa using hT
              have hne2 : (ee != 0) = true := by simpa using hT
              have hs6 : Since w w6 := hs2.later hs26
              clear HH2 hee hT
              trace "Q"; go_wp2_with fail
              go_ret
              rw [HH3.out.1, HH3.out.2]
              exact ⟨rfl, Leaves.same H0.out hs6⟩
          have htC : tC si.L si.C (z + fd.size) = maxN si.C (z + fd.size) := by unfold tC; rw [if_pos hT]
          rw [htC] at HTK6
          have HE2 : Hid (si.take1E ⟨3, [z], fd⟩ = putE si.M z fd.data.toList ∧ si.take1 ⟨3, [z], fd⟩ = { si with C := maxN si.C (z + fd.size), M := putM si.M z fd.data.toList }) := Lib.hid ⟨by rw [HEE.out, if_pos hT], by rw [HTE.out, if_pos hT]⟩
          rw [hT]
          have HPT := Lib.hid (fun (X : World) (hX : Since w6 X) => qput gs si.M si.t z fd X ⟨(HTK6.out.later hX).bs, HOK.out.ml, HOK.out.tt⟩ (by omega))
          clear hT htC HEE HTE
          trace "R"; go_upto_region 48 with fail
          refine wp_cut (S3 g b n (some ⟨bf, off, none⟩) nl cl gt gs gc si { si with C := maxN si.C (z + fd.size), M := putM si.M z fd.data.toList } i (putE si.M z fd.data.toList) w2) ?_ ?_
          rotate_left
          next =>
            as_aux_lemma =>
              intro _ _ _ _
              have hsd : Since w6 w6.drew := (Since.refl w6).drew
              trace "R1"; go_still_tail 12, (by kernel_rfl)
              trace "R1A"; change wpList _ _ _ _ _ w6.drew
              trace "R1B"; go_wp2_with (go_at_call 63; refine (HPT.out _ hsd).mono ?_; rintro e w7 ⟨rfl, hz7, ho7⟩)
              refine Met.intro ?_
              trace "R2"; go_step
              exact ⟨((HTK6.out.later hsd).strm HGS.out hz7.bl ho7), _, _, _, _, _, _, _, _, _, _, _, _, _, _, (by kernel_rfl), rfl⟩
          intro a' w7 hinv
          obtain ⟨htk7, t2, t3, t4, t5, t8, t9, t16, t17, t18, t19, t20, t21, t23, U, hU, rfl⟩ := hinv
          obtain ⟨u, rfl⟩ := growTail hU; clear hU
          have HTK7 := Lib.hid htk7
          have hs7 : Since w w7 := hs2.later htk7.since
          obtain ⟨ee, hee⟩ : ∃ e, putE si.M z fd.data.toList = e := ⟨_, rfl⟩
          rw [hee] at HE2
          rw [hee]
          clear htk7 hee g0 g1 g2 hc6 lb6 lbf6 HPT HTK6
          by_cases hP : ee = 0
          case neg =>
            have HH2 := HERR.out (by rw [HE2.out.1]; exact hP)
            rw [HE2.out.1] at HH2
            have HH3 := Lib.hid HH2
            have hne : (ee != 0) = true := by simpa using hP
            clear HH2 hP
            trace "S"; go_wp2_with fail
            go_ret
            rw [HH3.out.1, HH3.out.2]
            exact ⟨rfl, Leaves.same H0.out hs7⟩
          subst hP
          trace "T"; go_wp2_with fail
          refine Met.intro ?_
          go_step
          unfold SC
          rw [HE2.out.1, HE2.out.2]
          exact ⟨⟨rfl, HTK7.out⟩, _, _, _, _, _, _, _, _, _, _, _, _, _, _, _, (by kernel_rfl), rfl⟩
      intro a' w6 hinv
      obtain ⟨⟨hE5, htk⟩, t2, t3, t4, t5, t8, t9, t16, t17, t18, t19, t20, t21, t22, t23, U, hU, rfl⟩ := hinv
      obtain ⟨u, rfl⟩ := growTail hU; clear hU
      have HTK2 := Lib.hid htk
      have HTS2 : Hid (s.takes (L.take (i + 1)) = (0, si.take1 ⟨fk, fn, fd⟩)) := Lib.hid (by rw [HTS.out, hE5])
      clear hE5 htk f0 f1 f2 lbf HTK hs2r hsr HERR HTS
      trace "U"; go_wp2_with fail
      refine ⟨⟨i + 1, _, ⟨by omega, HTS2.out, HTK2.out⟩, _, _, _, _, _, _, _, _, _, _, _, _, _, _, _, (by kernel_rfl), rfl⟩, ?_⟩
      simp [LM, intOf]
      omega
end Go.Proofs.YtmfbaijbigodkaaGreatDoor.NTk
