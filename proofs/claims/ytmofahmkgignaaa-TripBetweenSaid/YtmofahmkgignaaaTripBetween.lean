/- TripBetween: for every times and delays the law returns true: the smooth time lies between the least and the greatest of the times. No condition. -/
import Derived.Test.YtmofahmkgignaaaTrip
import Derived.Deep.DeepCutAuto
import Derived.Deep.RegionHeld3
import Derived.WalkSpells
import Derived.Test.YtmofahmkgignaaaRows
import Derived.WalkKit
import Derived.ProofKit
import Derived.OpenShut
import Derived.ShutString
import Derived.ChangeOld
import Derived.Below
import Derived.Lib.SmallJoins
import Derived.Deep.Slices
import Derived.Deep.Matrix
import Derived.Deep.Strs
namespace Go.Proofs.Ytmofahmkgignaaa.tripBetween
open Go.ChangeShapes Go.WideShapes Go.ChangeAt Go.RowKit
open Go.ChangeMaps (open_string shut_string)
set_option linter.unusedVariables false

/-- what holds at the loop's head -/
structure Head (w wr : World) (s v lo hi : Int) : Prop where
  bl : BlockIs wr (w.heap.size + 1 + 1 + 1) 27 #[.int .i64 s, .int .i64 v, .int .i64 lo]
  hb : Below w.heap.size w wr
  r : TRight s v lo
  h1 : 8 * lo ≤ s
  h2 : s ≤ 8 * hi
  h3 : hi ≤ 100000

/-- what the call of Next leaves -/
def Nexted (w wr : World) (s v l t d : Int) (s13 s14 : Value) (wx : World) : Prop :=
  Below wr.heap.size wr wx ∧ ∃ g s' v' l' : _, s13 = .pointer (some ⟨g, 0, none⟩) ∧ wr.heap.size ≤ g ∧ BlockIs wx g 27 #[.int .i64 s', .int .i64 v', .int .i64 l'] ∧
    ((((1 ≤ t ∧ t ≤ 100000) ∧ 0 ≤ d ∧ d ≤ 100000) ∧ s14 = .nilIface ∧ s' = nextS s l t d ∧ v' = nextV s v l t d ∧ l' = nextL l t) ∨
     (¬ ((1 ≤ t ∧ t ≤ 100000) ∧ 0 ≤ d ∧ d ≤ 100000) ∧ s14 = .iface 23 (.int .i64 1)))

theorem nexted_call {w wr w1 : World} {s v l t d s' v' l' : Int} {e : Value} (hb1 : Below wr.heap.size wr w1)
    (h : ((((1 ≤ t ∧ t ≤ 100000) ∧ 0 ≤ d ∧ d ≤ 100000) ∧ e = .nilIface ∧ s' = nextS s l t d ∧ v' = nextV s v l t d ∧ l' = nextL l t) ∨
     (¬ ((1 ≤ t ∧ t ≤ 100000) ∧ 0 ≤ d ∧ d ≤ 100000) ∧ e = .iface 23 (.int .i64 1)))) :
    Nexted w wr s v l t d (.pointer (some ⟨w1.heap.size, 0, none⟩)) e (w1.alloc (.cells #[.int .i64 s', .int .i64 v', .int .i64 l'] 27)) :=
  ⟨hb1.alloc hb1.size _, w1.heap.size, s', v', l', rfl, hb1.size, BlockIs.fresh _ _ _, h⟩
theorem nexted_alloc {w wr w1 : World} {s v l t d s' v' l' : Int} {e : Value} (hb1 : Below wr.heap.size wr w1) (bl : BlockIs w1 wr.heap.size 27 #[.int .i64 0, .int .i64 0, .int .i64 0])
    (h : ((((1 ≤ t ∧ t ≤ 100000) ∧ 0 ≤ d ∧ d ≤ 100000) ∧ e = .nilIface ∧ s' = nextS s l t d ∧ v' = nextV s v l t d ∧ l' = nextL l t) ∨
     (¬ ((1 ≤ t ∧ t ≤ 100000) ∧ 0 ≤ d ∧ d ≤ 100000) ∧ e = .iface 23 (.int .i64 1)))) :
    Nexted w wr s v l t d (.pointer (some ⟨wr.heap.size, 0, none⟩)) e (((w1.setCell ⟨wr.heap.size, 0, none⟩ (.int .i64 s')).setCell ⟨wr.heap.size, 1, none⟩ (.int .i64 v')).setCell ⟨wr.heap.size, 2, none⟩ (.int .i64 l')) :=
  ⟨((hb1.setCell (Nat.le_refl _) _).setCell (Nat.le_refl _) _).setCell (Nat.le_refl _) _, wr.heap.size, s', v', l', rfl, Nat.le_refl _, ((bl.put 0 _).put 1 _).put 2 _, h⟩

theorem walk_nil (v0 v1 : Value) (w : World) (w0 : IntsIn w v0 []) :
    Calls Try.prog 5 #[v0, v1] w fun e w' => e = .returned (.bool true) ∧ Below w.heap.size w w' := by
  obtain ⟨_, A, cap, rfl, _, _, _⟩ := w0
  go_enter Try.func5, Try.ntmps5
  go_wp2_with (go_at_call 9; refine (first_yes 100 (by omega) (by omega) _).mono ?_; rintro e w' ⟨rfl, rfl⟩)
  go_ret
  exact ⟨rfl, ((Below.refl _ _).alloc (Nat.le_refl _) _).alloc (by simp) _⟩

theorem walk_bad (v0 v1 : Value) (z : Int) (zs : List Int) (w : World) (w0 : IntsIn w v0 (z :: zs)) (hz : ¬ (1 ≤ z ∧ z ≤ 100000)) :
    Calls Try.prog 5 #[v0, v1] w fun e w' => e = .returned (.bool true) ∧ Below w.heap.size w w' := by
  obtain ⟨_, A, cap, rfl, _, _, hc⟩ := w0
  obtain ⟨b, off, rfl, hlt, hc⟩ := hc (by simp)
  have c0 : w.cell? ⟨b, off, none⟩ = some (.int .i64 z) := by simpa [ith] using hc 0 (by simp)
  have hp : (0 : Int) < ((z :: zs).length : Int) := by simp
  have hne : (((z :: zs).length : Int) == 0) = false := by simp; omega
  have l1 : b < w.heap.size + 1 := by omega
  have l2 : b < w.heap.size + 1 + 1 := by omega
  have l3 : b < w.heap.size + 1 + 1 + 1 := by omega
  clear hc
  generalize (z :: zs).length = len at *
  by_cases hl : z < 1
  · go_enter Try.func5, Try.ntmps5
    go_wp2_with fail
    refine (first_yes 100 (by omega) (by omega) _).mono ?_
    rintro e w' ⟨rfl, rfl⟩
    go_wp2_with fail
    refine (first_no z hz _).mono ?_
    rintro e w' ⟨rfl, rfl⟩
    go_wp2_with fail
    go_ret
    exact ⟨rfl, ((((Below.refl _ _).alloc (Nat.le_refl _) _).alloc (by simp) _).alloc (by simp; omega) _).alloc (by simp; omega) _⟩
  · have hgt : 100000 < z := by omega
    go_enter Try.func5, Try.ntmps5
    go_wp2_with fail
    refine (first_yes 100 (by omega) (by omega) _).mono ?_
    rintro e w' ⟨rfl, rfl⟩
    go_wp2_with fail
    refine (first_no z hz _).mono ?_
    rintro e w' ⟨rfl, rfl⟩
    go_wp2_with fail
    go_ret
    exact ⟨rfl, ((((Below.refl _ _).alloc (Nat.le_refl _) _).alloc (by simp) _).alloc (by simp; omega) _).alloc (by simp; omega) _⟩

set_option maxRecDepth 100000 in
set_option maxHeartbeats 4000000 in
theorem walk (v0 : Value) (z0 : List Int) (v1 : Value) (z1 : List Int) (w : World) (w0 : IntsIn w v0 z0) (w1 : IntsIn w v1 z1) :
    Calls Try.prog 5 #[v0, v1] w fun e w' => e = .returned (.bool true) ∧ Below w.heap.size w w' := by
  rcases z0 with _ | ⟨z, zs⟩
  · exact walk_nil v0 v1 w w0
  by_cases hz : 1 ≤ z ∧ z ≤ 100000
  case neg => exact walk_bad v0 v1 z zs w w0 hz
  obtain ⟨hz1, hz2⟩ := hz
  obtain ⟨bd0, A, cap, rfl, hle0, hm0, hc⟩ := w0
  obtain ⟨b, off, rfl, hlt, hc⟩ := hc (by simp)
  have c0 : w.cell? ⟨b, off, none⟩ = some (.int .i64 z) := by simpa [ith] using hc 0 (by simp)
  obtain ⟨bd1, A1, cap1, rfl, hle1, hm1, hc1⟩ := w1
  have hp : (0 : Int) < ((z :: zs).length : Int) := by simp
  have hne : (((z :: zs).length : Int) == 0) = false := by simp; omega
  have l1 : b < w.heap.size + 1 := by omega
  have l2 : b < w.heap.size + 1 + 1 := by omega
  have l3 : b < w.heap.size + 1 + 1 + 1 := by omega
  have BD0 := Lib.hid bd0
  have BD1 := Lib.hid bd1
  have HC := Lib.hid hc
  have HC1 := Lib.hid hc1
  unfold maxLen at hm0 hm1
  clear hc hc1 bd0 bd1
  generalize z :: zs = Z at *
  have hZ : Z.length ≤ 9223372036854775807 := by omega
  go_enter Try.func5, Try.ntmps5
  go_wp2_with fail
  refine (first_yes 100 (by omega) (by omega) _).mono ?_
  rintro e w' ⟨rfl, rfl⟩
  go_wp2_with fail
  refine (first_yes z hz1 hz2 _).mono ?_
  rintro e w' ⟨rfl, rfl⟩
  go_wp2_with fail
  go_loopw [9, 10, 11] (fun s9 s10 s11 wr => ∃ (lo hi : Int) (k : Nat) (s v : Int), s9 = .int .i64 lo ∧ s10 = .int .i64 hi ∧ s11 = .int .i64 k ∧ k ≤ 40 ∧ 1 ≤ k ∧ Head w wr s v lo hi) (fun _ _ i _ => 40 - (intOf i).toNat)
  case atStart =>
    refine ⟨z, z, 1, 8 * z, 4 * z, rfl, rfl, rfl, by omega, by omega, BlockIs.fresh_at (by simp), ?_, ⟨by omega, by omega, by omega, by omega, hz1, hz2⟩, by omega, by omega, hz2⟩
    exact ((((Below.refl _ _).alloc (Nat.le_refl _) _).alloc (by simp) _).alloc (by simp; omega) _).alloc (by simp; omega) _
  case round =>
    obtain ⟨lo, hi, k, s, v, rfl, rfl, rfl, hk, hk1, hH⟩ := hrel
    clear c0 l1 l2 l3
    by_cases hlen : k < Z.length
    case neg =>
      have hlen' : decide ((k : Int) < (Z.length : Int)) = false := by simp; omega
      go_wp2_with fail
      go_ret
      exact ⟨rfl, hH.hb⟩
    by_cases h40 : k < 40
    case neg =>
      have hlen' : (k : Int) < (Z.length : Int) := by omega
      have h40' : decide ((k : Int) < 40) = false := by simp; omega
      go_wp2_with fail
      go_ret
      exact ⟨rfl, hH.hb⟩
    have hlen' : (k : Int) < (Z.length : Int) := by omega
    have h40' : (k : Int) < 40 := by omega
    have bl := hH.bl
    have hbelow := hH.hb
    have cz : wr.cell? ⟨b, off + k, none⟩ = some (.int .i64 (ith Z k)) := (hbelow.cell (p := ⟨b, off + k, none⟩) hlt).trans (HC.out k hlen)
    obtain ⟨zb1, zb2⟩ := ith_bounds BD0.out k
    go_upto_if 79 with fail
    go_cut [12] (fun s12 wx => ∃ d : Int, s12 = .int .i64 d ∧ -9223372036854775808 ≤ d ∧ d ≤ 9223372036854775807 ∧ wx = wr)
    case first =>
      by_cases hlen1 : k < z1.length
      · obtain ⟨b1, off1, rfl, hlt1, hc1⟩ := HC1.out (by rintro rfl; simp at hlen1)
        have cd : wr.cell? ⟨b1, off1 + k, none⟩ = some (.int .i64 (ith z1 k)) := (hbelow.cell (p := ⟨b1, off1 + k, none⟩) hlt1).trans (hc1 k hlen1)
        have hl1 : (k : Int) < (z1.length : Int) := by omega
        clear hc1
        go_wp2_with fail
        go_meet
        case rel => exact ⟨_, rfl, (ith_bounds BD1.out k).1, (ith_bounds BD1.out k).2, rfl⟩
      · have hl1 : decide ((k : Int) < (z1.length : Int)) = false := by simp; omega
        go_wp2_with fail
        go_meet
        case rel => exact ⟨0, rfl, by omega, by omega, rfl⟩
    case rest =>
      obtain ⟨d, rfl, hd1, hd2, hwx⟩ := hcut
      have hwx2 := hwx.symm
      subst hwx2
      go_wp2_with fail
      have p0 : wr.cell? ⟨w.heap.size + 1 + 1 + 1, 0, none⟩ = some (.int .i64 s) := bl.cell 0
      have p1 : wr.cell? ⟨w.heap.size + 1 + 1 + 1, 1, none⟩ = some (.int .i64 v) := bl.cell 1
      have p2 : wr.cell? ⟨w.heap.size + 1 + 1 + 1, 2, none⟩ = some (.int .i64 lo) := bl.cell 2
      go_cut [13, 14] (Nexted w wr s v lo (ith Z k) d)
      case first =>
        have q0 := World.new_ne wr _ p0
        have q3 := World.new_ne wr _ cz
        have hlb : b < wr.heap.size := Nat.lt_of_lt_of_le hlt hbelow.size
        have hsz := bl.lt
        by_cases hv : (1 ≤ ith Z k ∧ ith Z k ≤ 100000) ∧ 0 ≤ d ∧ d ≤ 100000
        · obtain ⟨⟨t1, t2⟩, d1, d2⟩ := hv
          go_region_held3 (fun w' => w'.cell? ⟨w.heap.size + 1 + 1 + 1, 0, none⟩ = some (.int .i64 s) ∧ w'.cell? ⟨w.heap.size + 1 + 1 + 1, 1, none⟩ = some (.int .i64 v) ∧ w'.cell? ⟨w.heap.size + 1 + 1 + 1, 2, none⟩ = some (.int .i64 lo) ∧ w'.cell? ⟨b, off + k, none⟩ = some (.int .i64 (ith Z k))) (go_keep) (first | (go_at_call 10; refine (next_yes s v lo (ith Z k) d hH.r t1 t2 d1 d2 _).mono ?_; rintro e w1 ⟨rfl, hb1⟩; have g0 : w1.cell? ⟨w.heap.size + 1 + 1 + 1, 0, none⟩ = some (.int .i64 s) := cell_later hb1 (by first | assumption | go_keep); have g1 : w1.cell? ⟨w.heap.size + 1 + 1 + 1, 1, none⟩ = some (.int .i64 v) := cell_later hb1 (by first | assumption | go_keep); have g2 : w1.cell? ⟨w.heap.size + 1 + 1 + 1, 2, none⟩ = some (.int .i64 lo) := cell_later hb1 (by first | assumption | go_keep); have g3 : w1.cell? ⟨b, off + k, none⟩ = some (.int .i64 (ith Z k)) := cell_later hb1 (by first | assumption | go_keep); have n0 := World.new_ne w1 _ g0; have n3 := World.new_ne w1 _ g3; (first | have zz := after_alloc hb1 | have zz := after_alloc_drew hb1 | have zz := trivial); try (have z0 : w1.cell? ⟨wr.heap.size, 0, none⟩ = some (.int .i64 0) := zz.cell 0; have z1' : w1.cell? ⟨wr.heap.size, 1, none⟩ = some (.int .i64 0) := zz.cell 1; have z2 : w1.cell? ⟨wr.heap.size, 2, none⟩ = some (.int .i64 0) := zz.cell 2; have zf : ∀ i, w1.frozen? ⟨wr.heap.size, i, none⟩ = false := fun i => zz.free i)))
          · go_wp2_with fail
            go_meet
            case rel => exact nexted_call (((Below.refl _ wr).drew).trans hb1) (Or.inl ⟨⟨⟨t1, t2⟩, d1, d2⟩, rfl, rfl, rfl, rfl⟩)
          · go_wp2_with fail
            go_meet
            case rel => exact nexted_alloc ((((Below.refl _ wr).alloc (Nat.le_refl _) _).drew).trans (hb1.mono (by simp))) zz (Or.inl ⟨⟨⟨t1, t2⟩, d1, d2⟩, rfl, rfl, rfl, rfl⟩)
        · have HV := Lib.hid hv
          clear hv
          go_region_held3 (fun w' => w'.cell? ⟨w.heap.size + 1 + 1 + 1, 0, none⟩ = some (.int .i64 s) ∧ w'.cell? ⟨w.heap.size + 1 + 1 + 1, 1, none⟩ = some (.int .i64 v) ∧ w'.cell? ⟨w.heap.size + 1 + 1 + 1, 2, none⟩ = some (.int .i64 lo) ∧ w'.cell? ⟨b, off + k, none⟩ = some (.int .i64 (ith Z k))) (go_keep) (first | (go_at_call 10; refine (next_no s v lo (ith Z k) d (fun h => HV.out h.2) _).mono ?_; rintro e w1 ⟨rfl, hb1⟩; have g0 : w1.cell? ⟨w.heap.size + 1 + 1 + 1, 0, none⟩ = some (.int .i64 s) := cell_later hb1 (by first | assumption | go_keep); have g1 : w1.cell? ⟨w.heap.size + 1 + 1 + 1, 1, none⟩ = some (.int .i64 v) := cell_later hb1 (by first | assumption | go_keep); have g2 : w1.cell? ⟨w.heap.size + 1 + 1 + 1, 2, none⟩ = some (.int .i64 lo) := cell_later hb1 (by first | assumption | go_keep); have g3 : w1.cell? ⟨b, off + k, none⟩ = some (.int .i64 (ith Z k)) := cell_later hb1 (by first | assumption | go_keep); have n0 := World.new_ne w1 _ g0; have n3 := World.new_ne w1 _ g3; (first | have zz := after_alloc hb1 | have zz := after_alloc_drew hb1 | have zz := trivial); try (have z0 : w1.cell? ⟨wr.heap.size, 0, none⟩ = some (.int .i64 0) := zz.cell 0; have z1' : w1.cell? ⟨wr.heap.size, 1, none⟩ = some (.int .i64 0) := zz.cell 1; have z2 : w1.cell? ⟨wr.heap.size, 2, none⟩ = some (.int .i64 0) := zz.cell 2; have zf : ∀ i, w1.frozen? ⟨wr.heap.size, i, none⟩ = false := fun i => zz.free i)))
          · go_wp2_with fail
            go_meet
            case rel => exact nexted_call (((Below.refl _ wr).drew).trans hb1) (Or.inr ⟨HV.out, rfl⟩)
          · go_wp2_with fail
            go_meet
            case rel => exact nexted_alloc ((((Below.refl _ wr).alloc (Nat.le_refl _) _).drew).trans (hb1.mono (by simp))) zz (Or.inr ⟨HV.out, rfl⟩)
      case rest =>
        obtain ⟨hbn, g, s', v', l', rfl, hg, bg, hcase⟩ := hcut
        have bp := bl.later hbn
        have hbl2 := hbelow.trans (hbn.mono hbelow.size)
        clear p0 p1 p2
        rcases hcase with ⟨⟨⟨t1, t2⟩, d1, d2⟩, rfl, es, ev, el⟩ | ⟨_, rfl⟩
        · have hr' : TRight s' v' l' := by rw [es, ev, el]; exact next_right s v lo _ d hH.r t1 t2 d1
          have hbt := next_between s lo (ith Z k) d hi hH.h1 hH.h2 hH.r.l1 t1 t2 d1
          rw [← es, ← el] at hbt
          obtain ⟨hb1, hb2⟩ := hbt
          have hlo : l' = if ith Z k < lo then ith Z k else lo := el
          have hlohi : lo ≤ hi := by have := hH.h1; have := hH.h2; omega
          have hl1 := hH.r.l1
          have hh3 := hH.h3
          have hs1 := hr'.s1
          have hs2 := hr'.s2
          have hv1 := hr'.v1
          have hv2 := hr'.v2
          have hcz : wc.cell? ⟨b, off + k, none⟩ = some (.int .i64 (ith Z k)) := cell_later hbn cz
          clear es ev el cz
          have gs : g ≠ w.heap.size + 1 + 1 + 1 := by have := bl.lt; omega
          have gb : b ≠ w.heap.size + 1 + 1 + 1 := by omega
          have bB : BlockIs (((wc.setCell ⟨w.heap.size + 1 + 1 + 1, 0, none⟩ (.int .i64 s')).setCell ⟨w.heap.size + 1 + 1 + 1, 1, none⟩ (.int .i64 v')).setCell ⟨w.heap.size + 1 + 1 + 1, 2, none⟩ (.int .i64 l')) (w.heap.size + 1 + 1 + 1) 27 #[.int .i64 s', .int .i64 v', .int .i64 l'] := ((bp.put 0 _).put 1 _).put 2 _
          have hbB : Below w.heap.size w (((wc.setCell ⟨w.heap.size + 1 + 1 + 1, 0, none⟩ (.int .i64 s')).setCell ⟨w.heap.size + 1 + 1 + 1, 1, none⟩ (.int .i64 v')).setCell ⟨w.heap.size + 1 + 1 + 1, 2, none⟩ (.int .i64 l')) := ((hbl2.setCell (by simp; omega) _).setCell (by simp; omega) _).setCell (by simp; omega) _
          have k0 : wc.cell? ⟨g, 0, none⟩ = some (.int .i64 s') := bg.cell 0
          have k1 : wc.cell? ⟨g, 1, none⟩ = some (.int .i64 v') := bg.cell 1
          have k2 : wc.cell? ⟨g, 2, none⟩ = some (.int .i64 l') := bg.cell 2
          have p0 : wc.cell? ⟨w.heap.size + 1 + 1 + 1, 0, none⟩ = some (.int .i64 s) := bp.cell 0
          have p1 : wc.cell? ⟨w.heap.size + 1 + 1 + 1, 1, none⟩ = some (.int .i64 v) := bp.cell 1
          have p2 : wc.cell? ⟨w.heap.size + 1 + 1 + 1, 2, none⟩ = some (.int .i64 lo) := bp.cell 2
          have pf : ∀ i, wc.frozen? ⟨w.heap.size + 1 + 1 + 1, i, none⟩ = false := fun i => bp.free i
          by_cases hA : ith Z k < lo
          · rw [if_pos hA] at hlo
            subst hlo
            have hnn : decide (hi < ith Z k) = false := by simp; omega
            rw [if_neg (by omega)] at hb2
            have X1 : waitN s' v' > s' / 8 := by unfold waitN; omega
            have X2 : waitN s' v' ≤ 1000000 := by unfold waitN; omega
            go_wp2_with (go_at_call 11; refine (wait_yes s' v' _ hr' _).mono ?_; rintro e w3 ⟨rfl, hb3⟩; have bD := bB.later hb3; have y0 : w3.cell? ⟨w.heap.size + 1 + 1 + 1, 0, none⟩ = some (.int .i64 s') := bD.cell 0; have y2 : w3.cell? ⟨w.heap.size + 1 + 1 + 1, 2, none⟩ = some (.int .i64 (ith Z k)) := bD.cell 2)
            go_roundw
            case rel => exact ⟨ith Z k, hi, k + 1, s', v', rfl, rfl, by go_num, by omega, by omega, bD, hbB.trans (hb3.mono hbB.size), hr', by omega, by omega, by omega⟩
            case measure => simp [intOf]; omega
          · rw [if_neg hA] at hlo
            subst hlo
            have hsz := bp.lt
            have X1 : waitN s' v' > s' / 8 := by unfold waitN; omega
            have X2 : waitN s' v' ≤ 1000000 := by unfold waitN; omega
            by_cases hB : hi < ith Z k
            · rw [if_pos hB] at hb2
              go_wp2_with (go_at_call 11; refine (wait_yes s' v' _ hr' _).mono ?_; rintro e w3 ⟨rfl, hb3⟩; have bD := bB.later hb3; have y0 : w3.cell? ⟨w.heap.size + 1 + 1 + 1, 0, none⟩ = some (.int .i64 s') := bD.cell 0; have y2 : w3.cell? ⟨w.heap.size + 1 + 1 + 1, 2, none⟩ = some (.int .i64 l') := bD.cell 2)
              go_roundw
              case rel => exact ⟨l', ith Z k, k + 1, s', v', rfl, rfl, by go_num, by omega, by omega, bD, hbB.trans (hb3.mono hbB.size), hr', by omega, by omega, by omega⟩
              case measure => simp [intOf]; omega
            · rw [if_neg hB] at hb2
              go_wp2_with (go_at_call 11; refine (wait_yes s' v' _ hr' _).mono ?_; rintro e w3 ⟨rfl, hb3⟩; have bD := bB.later hb3; have y0 : w3.cell? ⟨w.heap.size + 1 + 1 + 1, 0, none⟩ = some (.int .i64 s') := bD.cell 0; have y2 : w3.cell? ⟨w.heap.size + 1 + 1 + 1, 2, none⟩ = some (.int .i64 l') := bD.cell 2)
              go_roundw
              case rel => exact ⟨l', hi, k + 1, s', v', rfl, rfl, by go_num, by omega, by omega, bD, hbB.trans (hb3.mono hbB.size), hr', by omega, by omega, by omega⟩
              case measure => simp [intOf]; omega
        · go_wp2_with fail
          go_roundw
          case rel => exact ⟨lo, hi, k + 1, s, v, rfl, rfl, by go_num, by omega, by omega, bp, hbl2, hH.r, hH.h1, hH.h2, hH.h3⟩
          case measure => simp [intOf]; omega

/-! the row -/
theorem own : ownKnob Try.prog.godebug = none := by kernel_rfl
theorem laidOut : laidOutB Try.prog = true := by kernel_rfl
set_option maxRecDepth 100000 in
theorem contract (H : Type) (enc : TypeId × Value → H) (W : World) (base : Nat) (args : Array Value) (ds gs : List (DataW H)) (before : List MemPlace)
    (hval : ∀ (j : Nat) t v, Try.f5.params[j]? = some t → args[j]? = some v → Value.okWide Try.prog W .any base t v)
    (hW : DataW.Whole enc Try.prog Try.f5.params.toList Rows.tripBetweenSpec.vars false W args.toList ds gs before) :
    Calls Try.prog 5 args W fun e W' => ∃ v, e = .returned v ∧ Rows.tripBetweenSpec.post enc Try.prog Try.f5 false true false false W args v W' := by
  have hW' := hW
  obtain ⟨p, q, hA0, hV, rfl, hfz, hnd⟩ := hW
  have hA : DataW.TrodAll enc Try.prog W 0 (fun _ => true) true Try.f5.params.toList args.toList ds p := hA0
  rw [Try.params5] at hA hval
  obtain ⟨v0, vs0, d0, ds0, p0, q0, hargs, rfl, rfl, h0, r0⟩ := trodAll_cons hA
  obtain ⟨v1, vs1, d1, ds1, p1, q1, rfl, rfl, rfl, h1, r1⟩ := trodAll_cons r0
  obtain ⟨rfl, rfl, rfl⟩ := trodAll_nil r1
  obtain rfl : args = #[v0, v1] := by cases args; simp_all
  obtain ⟨rfl, rfl⟩ := trodVars_none hV
  obtain ⟨a0, len0, cap0, rfl⟩ := okWide_slice Try.underlying34 (hval 0 34 v0 rfl rfl)
  have k0 := h0
  have lt0 : ∀ x ∈ p0, x.block < W.heap.size := by obtain ⟨m, hm⟩ := k0; exact DataW.trod_lt m _ _ _ hm
  obtain ⟨z0, w0⟩ : ∃ zs, IntsIn W (.slice a0 len0 cap0) zs := by
    obtain ⟨fuel, hf⟩ := h0
    exact intsIn_open Try.underlying34 Try.underlying3 (by kernel_rfl) hf lt0
  obtain ⟨a1, len1, cap1, rfl⟩ := okWide_slice Try.underlying34 (hval 1 34 v1 rfl rfl)
  have k1 := h1
  have lt1 : ∀ x ∈ p1, x.block < W.heap.size := by obtain ⟨m, hm⟩ := k1; exact DataW.trod_lt m _ _ _ hm
  obtain ⟨z1, w1⟩ : ∃ zs, IntsIn W (.slice a1 len1 cap1) zs := by
    obtain ⟨fuel, hf⟩ := h1
    exact intsIn_open Try.underlying34 Try.underlying3 (by kernel_rfl) hf lt1
  refine (walk (.slice a0 len0 cap0) z0 (.slice a1 len1 cap1) z1 W w0 w1).mono fun e W' ⟨he, bel⟩ => ?_
  subst he
  exact ⟨_, rfl, _, _, _, [], _, [], hW', trodAll_mk1 (shut_bool Try.underlying4 _), (trodAll_cons_mk (Below.trod laidOut (by kernel_rfl) (of_decide_eq_true (by kernel_rfl)) k0 bel lt0) (trodAll_cons_mk (Below.trod laidOut (by kernel_rfl) (of_decide_eq_true (by kernel_rfl)) k1 bel lt1) trodAll_mk0)), rfl, bel.frame _, fun h => by cases h⟩

set_option maxRecDepth 100000 in
theorem lifted (os : Os) (started : os.Started) (H : Type) (enc : TypeId × Value → H) :
    ReturnsInHanded {} Try.checked os 5 .any (Rows.tripBetweenSpec.pre6 enc Try.prog Try.f5 Rows.tripBetweenRow.domain false) (Rows.tripBetweenSpec.post enc Try.prog Try.f5 false true false false) := by
  refine returnsInHanded_of_change (C := Try.checked) own started (by kernel_rfl) Try.func5
    (ChangeSpec.witness6 (enc := enc) (C := Try.checked) false ⟨#[], #[.slice none 0 0, .slice none 0 0], []⟩ 8 (by kernel_rfl) (by kernel_rfl) (by kernel_rfl) (by kernel_rfl)) ?_
  intro W base args ds gs before hval hW _ _
  exact contract H enc W base args ds gs before hval hW

theorem said : Rows.TripBetweenSaid :=
  OpenClaim.holds_of_wide 5 Try.f5 rfl rfl rfl rfl rfl rfl rfl ⟨rfl, rfl, rfl, rfl, rfl⟩ rfl rfl rfl rfl rfl (by kernel_rfl) Try.func5 (by kernel_rfl)
    (of_decide_eq_true (by kernel_rfl)) (by unfold Func.isWrapper; first | (rw [if_pos (by decide +kernel)]; kernel_rfl) | (rw [if_neg (by decide +kernel)]; exact ⟨rfl, rfl⟩))
    (fun os started H enc _ => lifted os started H enc)
#print axioms said
end Go.Proofs.Ytmofahmkgignaaa.tripBetween
