/- Contracts of varint.kind, slices.Backward over bytes, varint.Bytes, varint.Long, varint.Put: what each returns. Condition: the table of kinds holds what the program's text lays. -/
import Derived.Test.YthnolkbolmbkdaaDoorVStr
import Derived.Test.YthnolkbolmbkdaaDoorMay
import Derived.Test.YthnolkbolmbkdaaDoorLaid
import Derived.RangeFuncFrom
import Derived.RangeFuncNested
import Derived.RangeFuncBound
import Derived.RangeFuncCalls
import Derived.RangeFuncLeaves
import Derived.Shelf.Abstract
import Derived.Shelf.RegionOpen
import Derived.WalkKit
import Derived.OwnWalkIn
import Derived.TacticsInMore
import Derived.LoopNIn
import Derived.LoopIn
namespace Go.Proofs.YthnolkbolmbkdaaDoor
open Go.ChangeShapes Go.WideShapes Go.ChangeAt Go.RowKit Go.Shelf
set_option linter.unusedVariables false
attribute [local go_sem] Oper.semAt_some isU8_some cb_some

/-- the table as one value -/
abbrev kindsV : Value := .agg #[.int .i64 1, .int .i64 64, .int .i64 2, .int .i64 16384, .int .i64 4, .int .i64 1073741824]
theorem kinds_at0 (w : World) : (Instr.index 165 kindsV (.int .i64 0)).run Tryd.prog w = .ok (.agg #[.int .i64 1, .int .i64 64]) w := by kernel_rfl
theorem kinds_at1 (w : World) : (Instr.index 165 kindsV (.int .i64 1)).run Tryd.prog w = .ok (.agg #[.int .i64 2, .int .i64 16384]) w := by kernel_rfl
theorem kinds_at2 (w : World) : (Instr.index 165 kindsV (.int .i64 2)).run Tryd.prog w = .ok (.agg #[.int .i64 4, .int .i64 1073741824]) w := by kernel_rfl

set_option maxRecDepth 100000 in
set_option maxHeartbeats 1600000 in
theorem kind_any (n : Int) (w : World) (hk : KTab w) :
    Calls Tryd.prog 101 #[.int .i64 n] w fun e w' => e = .returned (.int .i64 (kindN n)) ∧ Below w.heap.size w w' := by
  obtain ⟨k0, k1, k2, k3, k4, k5⟩ := hk
  have i0 := kinds_at0
  have i1 := kinds_at1
  have i2 := kinds_at2
  by_cases a : n < 64
  · have E : Hid (kindN n = 0) := Lib.hid (by unfold kindN; rw [if_pos a])
    go_enter Tryd.func101, Tryd.ntmps101
    go_wp2
    refine wp_loop_rounds 1 ?_
    rw [rounds_succ]
    go_wp2
    go_ret
    exact ⟨end_int E.out.symm, (by refine Since.out ?_; repeat (first | with_reducible assumption | with_reducible exact Since.refl _ | with_reducible refine Since.later ?_ (by with_reducible assumption) | with_reducible refine Since.only ?_ (by with_reducible assumption) (by first | assumption | omega | (simp; done) | (simp; omega)) | with_reducible refine Since.alloc ?_ _ | with_reducible refine Since.drewN ?_ _ | with_reducible refine Since.drew ?_ | with_reducible refine Since.set ?_ (by first | assumption | omega | (simp; done) | (simp; omega)) _))⟩
  by_cases b : n < 16384
  · have E : Hid (kindN n = 1) := Lib.hid (by unfold kindN; rw [if_neg a, if_pos b])
    go_enter Tryd.func101, Tryd.ntmps101
    go_wp2
    refine wp_loop_rounds 2 ?_
    rw [rounds_succ]
    go_wp2
    rw [rounds_succ]
    go_wp2
    go_ret
    exact ⟨end_int E.out.symm, (by refine Since.out ?_; repeat (first | with_reducible assumption | with_reducible exact Since.refl _ | with_reducible refine Since.later ?_ (by with_reducible assumption) | with_reducible refine Since.only ?_ (by with_reducible assumption) (by first | assumption | omega | (simp; done) | (simp; omega)) | with_reducible refine Since.alloc ?_ _ | with_reducible refine Since.drewN ?_ _ | with_reducible refine Since.drew ?_ | with_reducible refine Since.set ?_ (by first | assumption | omega | (simp; done) | (simp; omega)) _))⟩
  have E : Hid (kindN n = 2) := Lib.hid (by unfold kindN; rw [if_neg a, if_neg b])
  by_cases c : n < 1073741824
  · go_enter Tryd.func101, Tryd.ntmps101
    go_wp2
    refine wp_loop_rounds 3 ?_
    rw [rounds_succ]
    go_wp2
    rw [rounds_succ]
    go_wp2
    rw [rounds_succ]
    go_wp2
    go_ret
    exact ⟨end_int E.out.symm, (by refine Since.out ?_; repeat (first | with_reducible assumption | with_reducible exact Since.refl _ | with_reducible refine Since.later ?_ (by with_reducible assumption) | with_reducible refine Since.only ?_ (by with_reducible assumption) (by first | assumption | omega | (simp; done) | (simp; omega)) | with_reducible refine Since.alloc ?_ _ | with_reducible refine Since.drewN ?_ _ | with_reducible refine Since.drew ?_ | with_reducible refine Since.set ?_ (by first | assumption | omega | (simp; done) | (simp; omega)) _))⟩
  · go_enter Tryd.func101, Tryd.ntmps101
    go_wp2
    refine wp_loop_rounds 4 ?_
    rw [rounds_succ]
    go_wp2
    rw [rounds_succ]
    go_wp2
    rw [rounds_succ]
    go_wp2
    rw [rounds_succ]
    go_wp2
    go_ret
    exact ⟨end_int E.out.symm, (by refine Since.out ?_; repeat (first | with_reducible assumption | with_reducible exact Since.refl _ | with_reducible refine Since.later ?_ (by with_reducible assumption) | with_reducible refine Since.only ?_ (by with_reducible assumption) (by first | assumption | omega | (simp; done) | (simp; omega)) | with_reducible refine Since.alloc ?_ _ | with_reducible refine Since.drewN ?_ _ | with_reducible refine Since.drew ?_ | with_reducible refine Since.set ?_ (by first | assumption | omega | (simp; done) | (simp; omega)) _))⟩

/-! slices.Backward over bytes of the call's own, each round free to write them -/
/-- an index below K, and a byte -/
abbrev BX (K : Nat) := { x : Int × Int // 0 ≤ x.1 ∧ x.1 < K }
/-- block b holds K bytes -/
def RowU8 (K b : Nat) (W : World) : Prop := ∀ j, j < K → ∃ v, W.cell? ⟨b, j, none⟩ = some (.int .u8 v)
/-- what a round keeps -/
def KpB (K b s : Nat) (W W' : World) : Prop := (RowU8 K b W → RowU8 K b W') ∧ ∀ v, W.cell? ⟨s, 0, none⟩ = some v → W'.cell? ⟨s, 0, none⟩ = some v
theorem KpB.t {K b s : Nat} {A B C : World} (h : KpB K b s A B) (k : KpB K b s B C) : KpB K b s A C := ⟨fun x => k.1 (h.1 x), fun v x => k.2 v (h.2 v x)⟩
theorem KpB.b {K b s B : Nat} (W : World) (l : Nat) (o o' : Obj) (_ : B ≤ l) (h : W.heap[l]? = some o) (hc : o.isCells = false) (_ : o.isWalk = false) : KpB K b s W (W.putObj l o') :=
  ⟨fun x j hj => by
    obtain ⟨v, hv⟩ := x j hj
    exact ⟨v, cell_kept hv (grownBy_putObj' W l o') (fun r e => by cases e; exact ⟨o, h, hc⟩)⟩,
   fun v x => cell_kept x (grownBy_putObj' W l o') (fun r e => by cases e; exact ⟨o, h, hc⟩)⟩
/-- the first k indexes from above -/
def downs (K k : Nat) : List Int := (List.range k).map fun (j : Nat) => (K : Int) - 1 - j
theorem downs_succ (K k : Nat) : downs K (k + 1) = downs K k ++ [(K : Int) - 1 - k] := by simp [downs, List.range_succ]
theorem downs_length (K k : Nat) : (downs K k).length = k := by simp [downs]

set_option maxRecDepth 100000 in
set_option maxHeartbeats 2000000 in
theorem back1_in (F : Fence) (n : Nat) (hf : F.fn 118) (hro : F.round = none) (hn : 1 ≤ n) (l s b K : Nat) (hK : K ≤ 8) (J Jx : List (BX K) → World → Prop)
    (hY : ∀ pre x W, J pre W → pre.length < K → YieldAt F (n - 1) Tryd.prog l #[.int .i64 x.1.1, .int .u8 x.1.2] W fun e W' =>
      (e = .returned (.bool true) ∧ J (pre ++ [x]) W' ∧ KpB K b s W W') ∨ (e = .returned (.bool false) ∧ Jx (pre ++ [x]) W'))
    (W : World) (hs : W.cell? ⟨s, 0, none⟩ = some (.slice (some ⟨b, 0, none⟩) K K)) (hc : RowU8 K b W) (h0 : J [] W) :
    CallsIn F n Tryd.prog 118 #[.func (.yield l) #[] #[], .pointer (some ⟨s, 0, none⟩)] W fun e W' => (∃ v, e = .returned v) ∧
      ((∃ ys : List (BX K), ys.map (·.1.1) = downs K K ∧ J ys W') ∨ (∃ pre : List (BX K), True ∧ Jx pre W')) := by
  have HY := Lib.hid hY
  clear hY
  refine callsIn_of_wp Tryd.func118 rfl hf ?_ hro
  simp only [Tryd.ntmps118, List.size_toArray, List.length_cons, List.length_nil, Nat.reduceAdd, Nat.reduceSub, Array.replicate_succ, Array.replicate_zero, List.push_toArray, List.append_toArray, List.nil_append, List.cons_append]
  gi_wp2
  gi_loopw [3] (fun i wr => ∃ (r : Nat) (pre : List (BX K)), r ≤ K ∧ i = .int .i64 ((r : Int) - 1) ∧ pre.map (·.1.1) = downs K (K - r) ∧ J pre wr ∧ RowU8 K b wr ∧ wr.cell? ⟨s, 0, none⟩ = some (.slice (some ⟨b, 0, none⟩) K K))
    (fun i _ => (intOf i + 1).toNat)
  case atStart => exact ⟨K, [], Nat.le_refl _, rfl, by rw [Nat.sub_self]; rfl, h0, hc, hs⟩
  case round =>
    obtain ⟨r, pre, hr, rfl, hp, hJ, hcr, hsr⟩ := hrel
    have HP := Lib.hid hp
    clear hp
    rcases r with _ | r
    · have HJ := Lib.hid hJ
      clear hJ hcr
      gi_wp2
      go_end0
      exact ⟨⟨_, rfl⟩, .inl ⟨pre, HP.out, HJ.out⟩⟩
    · obtain ⟨v, hv⟩ := hcr r (by omega)
      have hlen : pre.length = K - (r + 1) := by have := congrArg List.length HP.out; simpa [downs_length] using this
      have HR := HY.out pre ⟨((r : Int), v), by simp; omega⟩ wr hJ (by omega)
      rw [show (((r + 1 : Nat) : Int) - 1) = (r : Int) from by omega]
      have HCR := Lib.hid hcr
      have hr2 : (r : Int) < (K : Int) := by omega
      clear hJ hcr hlen
      obtain ⟨fn, tmps, assign, body, hy, hR⟩ := HR
      dsimp only at hy
      gi_wp2
      refine hR.mono ?_
      rintro e W3 (⟨rfl, hJ3, hk3⟩ | ⟨rfl, hJx3⟩)
      · have hs3 := hk3.2 _ hsr
        have HC3 := Lib.hid (hk3.1 HCR.out)
        have HJ3 := Lib.hid hJ3
        clear hJ3 hk3
        gi_wp2
        go_roundw
        case rel => exact ⟨r, pre ++ [⟨((r : Int), v), by simp; omega⟩], by omega, rfl, by rw [List.map_append, HP.out, show K - r = K - (r + 1) + 1 from by omega, downs_succ]; simp; omega, HJ3.out, HC3.out, hs3⟩
        case measure => simp [intOf]
      · gi_wp2
        refine bodyPost_ret (results_none rfl _ _ _) rfl ?_
        exact ⟨⟨_, rfl⟩, .inr ⟨_, trivial, hJx3⟩⟩

theorem back_stops (F : Fence) (n : Nat) (hf : F.fn 118) (hro : F.round = none) (hn : 1 ≤ n) (s b K : Nat) (hK : K ≤ 8) (w : World)
    (hs : w.cell? ⟨s, 0, none⟩ = some (.slice (some ⟨b, 0, none⟩) K K)) (hc : RowU8 K b w) (hsl : s < w.heap.size) (hbl : b < w.heap.size) :
    SeqStopsK F n Tryd.prog 118 #[.pointer (some ⟨s, 0, none⟩)] (fun x : BX K => #[Value.int .i64 x.1.1, Value.int .u8 x.1.2]) (KpB K b s) (fun ys => ys.map (·.1.1) = downs K K) (fun _ => True) K w := fun l J Jx W hW _ _ hY h0 =>
  back1_in F n hf hro hn l s b K hK J Jx hY W ((hW.cell (p := ⟨s, 0, none⟩) hsl).trans hs) (fun j hj => by obtain ⟨v, hv⟩ := hc j hj; exact ⟨v, (hW.cell (p := ⟨b, j, none⟩) hbl).trans hv⟩) h0

set_option maxHeartbeats 1000000 in
theorem backward_in (F : Fence) (n : Nat) (hf : F.fn 102) (hro : F.round = none) (a : Option Addr) (len cap : Nat) (w : World) :
    CallsIn F n Tryd.prog 102 #[.slice a len cap] w fun e w' => e = .returned (.func (.func 118) #[] #[.pointer (some ⟨w.heap.size, 0, none⟩)]) ∧ w' = w.alloc (.cells #[.slice a len cap] 134) := by
  refine callsIn_of_wp Tryd.func102 rfl hf ?_ hro
  simp only [Tryd.ntmps102, List.size_toArray, List.length_cons, List.length_nil, Nat.reduceAdd, Nat.reduceSub, Array.replicate_succ, Array.replicate_zero, List.push_toArray, List.append_toArray, List.nil_append, List.cons_append]
  gi_wp2
  go_ret
  exact ⟨rfl, rfl⟩
/-! varint.Bytes -/
/-- behind rounds at these indexes: the row, and what is left of the number -/
def bstep (s : (Nat → Int) × Int) (i : Int) : (Nat → Int) × Int := (fun (j : Nat) => if (j : Int) = i then s.2 % 256 else s.1 j, s.2 / 256)
def bst (m : Int) (is : List Int) : (Nat → Int) × Int := is.foldl bstep (fun _ => 0, m)
theorem bst_snoc (m : Int) (is : List Int) (i : Int) : bst m (is ++ [i]) = bstep (bst m is) i := by simp [bst]
theorem bst_bounds {m : Int} (h0 : 0 ≤ m) (h1 : m ≤ 4294967296) (is : List Int) : 0 ≤ (bst m is).2 ∧ (bst m is).2 ≤ 4294967296 := by
  have h : ∀ (is : List Int) (s : (Nat → Int) × Int), 0 ≤ s.2 → s.2 ≤ 4294967296 → 0 ≤ (is.foldl bstep s).2 ∧ (is.foldl bstep s).2 ≤ 4294967296 := by
    intro is
    induction is with
    | nil => intro s a b; exact ⟨a, b⟩
    | cons i r ih =>
      intro s a b
      rw [List.foldl_cons]
      exact ih _ (by show 0 ≤ s.2 / 256; omega) (by show s.2 / 256 ≤ 4294967296; omega)
  exact h is _ h0 h1
/-- what the loop's memory holds -/
structure BI (w : World) (gn go gs : Nat) (K : Nat) (m : Int) (pre : List (BX K)) (W : World) : Prop where
  n : W.cell? ⟨gn, 0, none⟩ = some (.int .i64 (bst m (pre.map (·.1.1))).2)
  fn : W.frozen? ⟨gn, 0, none⟩ = false
  r : ∀ j, j < K → W.cell? ⟨go, j, none⟩ = some (.int .u8 ((bst m (pre.map (·.1.1))).1 j))
  fr : ∀ j, j < K → W.frozen? ⟨go, j, none⟩ = false
  s : W.cell? ⟨gs, 0, none⟩ = some (.slice (some ⟨go, 0, none⟩) K K)
theorem BI.own (w : World) (gn go gs K : Nat) (m : Int) : Own (fun (pre : List (BX K)) W => BI w gn go gs K m pre W) := fun _ A B row hs hg hr =>
  ⟨cell_kept hs.n hg hr, (frozen_kept hs.n hg hr).trans hs.fn, fun j hj => cell_kept (hs.r j hj) hg hr, fun j hj => (frozen_kept (hs.r j hj) hg hr).trans (hs.fr j hj), cell_kept hs.s hg hr⟩

theorem BI.step {w W : World} {gn go gs K p : Nat} {m : Int} {pre : List (BX K)} {x : BX K} (h : BI w gn go gs K m pre W) (hx : x.1.1 = (p : Int)) (hp : p < K) (n1 : go ≠ gn) (n2 : gs ≠ gn) (n3 : gs ≠ go) :
    BI w gn go gs K m (pre ++ [x]) ((W.setCell ⟨go, p, none⟩ (.int .u8 ((bst m (pre.map (·.1.1))).2 % 256))).setCell ⟨gn, 0, none⟩ (.int .i64 ((bst m (pre.map (·.1.1))).2 / 256))) := by
  have e : (pre ++ [x]).map (·.1.1) = pre.map (·.1.1) ++ [(p : Int)] := by rw [List.map_append]; simp [hx]
  obtain ⟨hn, hfn, hr, hfr, hs⟩ := h
  have far : ∀ {g o g' o' : Nat}, g ≠ g' → (⟨g', o', none⟩ : Addr) ≠ ⟨g, o, none⟩ := fun hne he => hne (congrArg Addr.block he).symm
  refine ⟨?_, ?_, ?_, ?_, ?_⟩
  · rw [e, bst_snoc]
    exact World.cell?_setCell_same' _ _ _ (by rw [World.cell?_setCell_other _ _ _ _ (far n1.symm), hn]; rfl)
  · rw [World.frozen?_setCell, World.frozen?_setCell]; exact hfn
  · intro j hj
    rw [e, bst_snoc, World.cell?_setCell_other _ _ _ _ (far n1)]
    by_cases hjp : j = p
    · subst hjp
      rw [World.cell?_setCell_same' _ _ _ (by rw [hr j hj]; rfl)]
      simp [bstep]
    · rw [World.cell?_setCell_other _ _ _ _ (fun he => hjp (congrArg Addr.off he).symm), hr j hj]
      simp only [bstep]
      rw [if_neg (by omega)]
  · intro j hj
    rw [World.frozen?_setCell, World.frozen?_setCell]; exact hfr j hj
  · rw [World.cell?_setCell_other _ _ _ _ (far n2), World.cell?_setCell_other _ _ _ _ (far n3)]; exact hs
theorem KpB.step {W : World} {K b s g p : Nat} {v : Int} {q : Value} (n1 : b ≠ g) (n2 : s ≠ g) (n3 : s ≠ b) : KpB K b s W ((W.setCell ⟨b, p, none⟩ (.int .u8 v)).setCell ⟨g, 0, none⟩ q) := by
  have far : ∀ {g o g' o' : Nat}, g ≠ g' → (⟨g', o', none⟩ : Addr) ≠ ⟨g, o, none⟩ := fun hne he => hne (congrArg Addr.block he).symm
  constructor
  · intro h j hj
    obtain ⟨u, hu⟩ := h j hj
    rw [World.cell?_setCell_other _ _ _ _ (far n1)]
    by_cases hjp : j = p
    · subst hjp
      exact ⟨v, World.cell?_setCell_same' _ _ _ (by rw [hu]; rfl)⟩
    · exact ⟨u, by rw [World.cell?_setCell_other _ _ _ _ (fun he => hjp (congrArg Addr.off he).symm)]; exact hu⟩
  · intro u hu
    rw [World.cell?_setCell_other _ _ _ _ (far n2), World.cell?_setCell_other _ _ _ _ (far n3)]
    exact hu

set_option maxRecDepth 100000 in
set_option maxHeartbeats 2000000 in
theorem bytes_k0 (n : Int) (h0 : 0 ≤ n) (h1 : n < 64) (w : World) (hk : KTab w) :
    CallsIn Fence.wide 6 Tryd.prog 73 #[.int .i64 n] w fun e w' => e = .returned (.string ⟨(vbytes n).toArray⟩) ∧ Below w.heap.size w w' := by
  have E : Hid (kindN n = 0) := Lib.hid (by unfold kindN; rw [if_pos (by omega)])
  have V : Hid (∀ ys : List (BX 1), ys.map (·.1.1) = downs 1 1 → vbytes n = [byteOf ((bst (n) (ys.map (·.1.1))).1 0)]) := Lib.hid (fun ys hys => by
    rw [hys]
    unfold vbytes
    rw [if_pos (by omega)]
    have e0 : (bst (n) (downs 1 1)).1 0 = (n) % 256 := rfl
    have g0 : (n) % 256 = n := by omega
    rw [e0, g0])
  have HK := Lib.hid hk
  have hkl := hk.lt
  clear hk
  have hmk : ∀ w : World, (Instr.makeSlice 134 (.int .i64 1) (.int .i64 1)).run Tryd.prog w = .ok (.slice (some ⟨w.heap.size, 0, none⟩) 1 1) (w.alloc (.cells #[.int .u8 0] 5)) := fun _ => by kernel_rfl
  have cv := conv1
  refine callsIn_of_wp_marks Tryd.func73 rfl trivial ?_ rfl
  simp only [Tryd.ntmps73, List.size_toArray, List.length_cons, List.length_nil, Nat.reduceAdd, Nat.reduceSub, Array.replicate_succ, Array.replicate_zero, List.push_toArray, List.append_toArray, List.nil_append, List.cons_append]
  gi_wp2_with (first | (refine ⟨trivial, ?_⟩; gi_at_call 101; refine (callsIn_wide.2 (kind_any n _ (HK.out.alloc _))).mono ?_; rintro e w1 ⟨rfl, hb1⟩; rw [E.out]; (first | (refine keepk (w.heap.size) hb1 (by first | assumption | (simp; omega) | (simp; done)) ?_; intro lk ck fk)); obtain ⟨k0, k1, k2, k3, k4, k5⟩ := (HK.out.alloc _).later hb1) | (refine ⟨trivial, ?_⟩; gi_at_call 102; refine (backward_in Fence.wide _ trivial rfl _ _ _ _).mono ?_; rintro e w' ⟨rfl, rfl⟩))
  have u1 : w.heap.size < w1.heap.size + 1 := by omega
  have u2 : w.heap.size < w1.heap.size + 1 + 1 := by omega
  have u3 : w.heap.size < w1.heap.size + 1 + 1 + 1 := by omega
  trace "T1"; refine wpIn_rangeFunc_ownF rfl (by omega) (gf := 118) (lb := #[.pointer (some ⟨w1.heap.size + 1 + 1 + 1, 0, none⟩)]) rfl trivial (enters_of Tryd.func118 (by kernel_rfl) rfl)
    (back_stops Fence.wide _ trivial rfl (by omega) (w1.heap.size + 1 + 1 + 1) (w1.heap.size + 1) 1 (by omega) _ (by go_simp) (fun j hj => by
      match j, hj with
      | 0, _ => exact ⟨0, by go_simp⟩) (by first | (simp; done) | (simp; omega)) (by first | (simp; done) | (simp; omega))) KpB.t KpB.b (Below.refl _ _) (fun _ => rfl)
    (fun pre W => BI w w.heap.size (w1.heap.size + 1) (w1.heap.size + 1 + 1) 1 (n) pre W ∧ Below w.heap.size w W)
    (fun _ _ _ => False)
    (OwnFrom.and (Own.from (BI.own _ _ _ _ _ _) _) (ownFrom_below (Nat.le_refl _) (by simp; omega)))
    (fun _ _ _ _ _ hs _ _ => hs)
    ⟨⟨by show _ = some (Value.int .i64 (n)); go_simp, by go_simp, fun j hj => (by
      match j, hj with
      | 0, _ => show _ = some (Value.int .u8 0); go_simp), fun j hj => (by go_simp), by go_simp⟩, (by refine Since.out ?_; repeat (first | with_reducible assumption | with_reducible exact Since.refl _ | with_reducible refine Since.later ?_ (by with_reducible assumption) | with_reducible refine Since.only ?_ (by with_reducible assumption) (by first | assumption | omega | (simp; done) | (simp; omega)) | with_reducible refine Since.alloc ?_ _ | with_reducible refine Since.drewN ?_ _ | with_reducible refine Since.drew ?_ | with_reducible refine Since.set ?_ (by first | assumption | omega | (simp; done) | (simp; omega)) _))⟩
    (fun x => { tmps := #[.int .i64 n, .pointer (some ⟨w.heap.size, 0, none⟩), .string ⟨#[]⟩, .int .i64 0, .pointer (some ⟨w1.heap.size, 0, none⟩), .pointer (some ⟨w1.heap.size + 1 + 1, 0, none⟩), .int .i64 x.1.1, .int .i64 n, .int .i64 0, .int .i64 0, .pointer (some ⟨0, 0, none⟩), .agg #[.int .i64 1, .int .i64 64], .int .i64 n, .int .i64 0, .pointer (some ⟨w1.heap.size, 1, none⟩), .int .i64 64, .int .i64 0, .int .i64 (n), .pointer (some ⟨w1.heap.size, 0, none⟩), .int .i64 1, .slice (some ⟨w1.heap.size + 1, 0, none⟩) 1 1, .slice (some ⟨w1.heap.size + 1, 0, none⟩) 1 1, .func (.func 118) #[] #[.pointer (some ⟨w1.heap.size + 1 + 1 + 1, 0, none⟩)], .int .i64 x.1.1, .int .u8 x.1.2, undef, undef, undef, undef, undef, undef, undef, undef, undef], defers := [] }) ?assign ?body ?done ?stop
  case assign =>
    trace "T2"; intro l x W K hK
    gi_wp2
    exact hK
  case body =>
    trace "T3"; rintro l pre x W ⟨hB, hb⟩ _
    have HB := Lib.hid hB
    obtain ⟨hn, hfn, hr, hfr, hs⟩ := hB
    obtain ⟨p, hp⟩ := Int.eq_ofNat_of_zero_le x.2.1
    have HP := Lib.hid hp
    have hpK : p < 1 := by have := x.2.2; omega
    have cp := hr p hpK
    have fp := hfr p hpK
    obtain ⟨q0, q1⟩ := bst_bounds (m := n) (by omega) (by omega) (pre.map (·.1.1))
    have n1 : w1.heap.size + 1 ≠ w.heap.size := by omega
    have n2 : w1.heap.size + 1 + 1 ≠ w.heap.size := by omega
    rw [hp]
    clear hr hfr hp
    obtain ⟨q, hq⟩ : ∃ q, (bst (n) (pre.map (·.1.1))).2 = q := ⟨_, rfl⟩
    have HQ := Lib.hid hq
    rw [hq] at hn q0 q1
    clear hq
    trace "T4"; gi_wp2
    trace "T5"; refine ⟨(KeepsOthers.setCell _ _ _).trans (KeepsOthers.setCell _ _ _), KpB.step n1 (by omega) (by omega), ?_, (hb.setCell (by simp; omega) _).setCell (by simp) _⟩
    have hst := HB.out.step HP.out hpK n1 n2 (by omega)
    rw [HQ.out] at hst
    exact hst
  case done =>
    trace "T6"; rintro D ys W hD hys ⟨hB, hb⟩ hK
    have HY := Lib.hid (V.out ys hys)
    obtain ⟨hn, hfn, hr, hfr, hs⟩ := hB
    have c0 := hr 0 (by omega)
    clear hr hfr hys
    gi_wp2
    trace "T7"; refine ⟨by simp, .inl ⟨_, _, rfl, run_takeDeferred hK, ?_⟩⟩
    exact ⟨_, results_tmp rfl _ _ _, by rw [HY.out]; rfl, hb.trans (belowK_b (w := w) (Nat.le_refl _) W D _ _ (by simp at hD; omega) hK rfl rfl)⟩
  case stop =>
    rintro D c pre W _ _ h _
    exact h.elim

set_option maxRecDepth 100000 in
set_option maxHeartbeats 2000000 in
theorem bytes_k1 (n : Int) (h0 : 64 ≤ n) (h1 : n < 16384) (w : World) (hk : KTab w) :
    CallsIn Fence.wide 6 Tryd.prog 73 #[.int .i64 n] w fun e w' => e = .returned (.string ⟨(vbytes n).toArray⟩) ∧ Below w.heap.size w w' := by
  have E : Hid (kindN n = 1) := Lib.hid (by unfold kindN; rw [if_neg (by omega), if_pos (by omega)])
  have V : Hid (∀ ys : List (BX 2), ys.map (·.1.1) = downs 2 2 → vbytes n = [byteOf ((bst (n + 16384) (ys.map (·.1.1))).1 0), byteOf ((bst (n + 16384) (ys.map (·.1.1))).1 1)]) := Lib.hid (fun ys hys => by
    rw [hys]
    unfold vbytes
    rw [if_neg (by omega), if_pos (by omega)]
    have e0 : (bst (n + 16384) (downs 2 2)).1 0 = (n + 16384) / 256 % 256 := rfl
    have e1 : (bst (n + 16384) (downs 2 2)).1 1 = (n + 16384) % 256 := rfl
    have g0 : (n + 16384) / 256 % 256 = 64 + n / 256 := by omega
    have g1 : (n + 16384) % 256 = n % 256 := by omega
    rw [e0, g0, e1, g1])
  have HK := Lib.hid hk
  have hkl := hk.lt
  clear hk
  have hmk : ∀ w : World, (Instr.makeSlice 134 (.int .i64 2) (.int .i64 2)).run Tryd.prog w = .ok (.slice (some ⟨w.heap.size, 0, none⟩) 2 2) (w.alloc (.cells #[.int .u8 0, .int .u8 0] 5)) := fun _ => by kernel_rfl
  have cv := conv2
  refine callsIn_of_wp_marks Tryd.func73 rfl trivial ?_ rfl
  simp only [Tryd.ntmps73, List.size_toArray, List.length_cons, List.length_nil, Nat.reduceAdd, Nat.reduceSub, Array.replicate_succ, Array.replicate_zero, List.push_toArray, List.append_toArray, List.nil_append, List.cons_append]
  gi_wp2_with (first | (refine ⟨trivial, ?_⟩; gi_at_call 101; refine (callsIn_wide.2 (kind_any n _ (HK.out.alloc _))).mono ?_; rintro e w1 ⟨rfl, hb1⟩; rw [E.out]; (first | (refine keepk (w.heap.size) hb1 (by first | assumption | (simp; omega) | (simp; done)) ?_; intro lk ck fk)); obtain ⟨k0, k1, k2, k3, k4, k5⟩ := (HK.out.alloc _).later hb1) | (refine ⟨trivial, ?_⟩; gi_at_call 102; refine (backward_in Fence.wide _ trivial rfl _ _ _ _).mono ?_; rintro e w' ⟨rfl, rfl⟩))
  have u1 : w.heap.size < w1.heap.size + 1 := by omega
  have u2 : w.heap.size < w1.heap.size + 1 + 1 := by omega
  have u3 : w.heap.size < w1.heap.size + 1 + 1 + 1 := by omega
  trace "T1"; refine wpIn_rangeFunc_ownF rfl (by omega) (gf := 118) (lb := #[.pointer (some ⟨w1.heap.size + 1 + 1 + 1, 0, none⟩)]) rfl trivial (enters_of Tryd.func118 (by kernel_rfl) rfl)
    (back_stops Fence.wide _ trivial rfl (by omega) (w1.heap.size + 1 + 1 + 1) (w1.heap.size + 1) 2 (by omega) _ (by go_simp) (fun j hj => by
      match j, hj with
      | 0, _ => exact ⟨0, by go_simp⟩
      | 1, _ => exact ⟨0, by go_simp⟩) (by first | (simp; done) | (simp; omega)) (by first | (simp; done) | (simp; omega))) KpB.t KpB.b (Below.refl _ _) (fun _ => rfl)
    (fun pre W => BI w w.heap.size (w1.heap.size + 1) (w1.heap.size + 1 + 1) 2 (n + 16384) pre W ∧ Below w.heap.size w W)
    (fun _ _ _ => False)
    (OwnFrom.and (Own.from (BI.own _ _ _ _ _ _) _) (ownFrom_below (Nat.le_refl _) (by simp; omega)))
    (fun _ _ _ _ _ hs _ _ => hs)
    ⟨⟨by show _ = some (Value.int .i64 (n + 16384)); go_simp, by go_simp, fun j hj => (by
      match j, hj with
      | 0, _ => show _ = some (Value.int .u8 0); go_simp
      | 1, _ => show _ = some (Value.int .u8 0); go_simp), fun j hj => (by go_simp), by go_simp⟩, (by refine Since.out ?_; repeat (first | with_reducible assumption | with_reducible exact Since.refl _ | with_reducible refine Since.later ?_ (by with_reducible assumption) | with_reducible refine Since.only ?_ (by with_reducible assumption) (by first | assumption | omega | (simp; done) | (simp; omega)) | with_reducible refine Since.alloc ?_ _ | with_reducible refine Since.drewN ?_ _ | with_reducible refine Since.drew ?_ | with_reducible refine Since.set ?_ (by first | assumption | omega | (simp; done) | (simp; omega)) _))⟩
    (fun x => { tmps := #[.int .i64 n, .pointer (some ⟨w.heap.size, 0, none⟩), .string ⟨#[]⟩, .int .i64 1, .pointer (some ⟨w1.heap.size, 0, none⟩), .pointer (some ⟨w1.heap.size + 1 + 1, 0, none⟩), .int .i64 x.1.1, .int .i64 n, .int .i64 1, .int .i64 1, .pointer (some ⟨0, 2, none⟩), .agg #[.int .i64 2, .int .i64 16384], .int .i64 n, .int .i64 1, .pointer (some ⟨w1.heap.size, 1, none⟩), .int .i64 16384, .int .i64 16384, .int .i64 (n + 16384), .pointer (some ⟨w1.heap.size, 0, none⟩), .int .i64 2, .slice (some ⟨w1.heap.size + 1, 0, none⟩) 2 2, .slice (some ⟨w1.heap.size + 1, 0, none⟩) 2 2, .func (.func 118) #[] #[.pointer (some ⟨w1.heap.size + 1 + 1 + 1, 0, none⟩)], .int .i64 x.1.1, .int .u8 x.1.2, undef, undef, undef, undef, undef, undef, undef, undef, undef], defers := [] }) ?assign ?body ?done ?stop
  case assign =>
    trace "T2"; intro l x W K hK
    gi_wp2
    exact hK
  case body =>
    trace "T3"; rintro l pre x W ⟨hB, hb⟩ _
    have HB := Lib.hid hB
    obtain ⟨hn, hfn, hr, hfr, hs⟩ := hB
    obtain ⟨p, hp⟩ := Int.eq_ofNat_of_zero_le x.2.1
    have HP := Lib.hid hp
    have hpK : p < 2 := by have := x.2.2; omega
    have cp := hr p hpK
    have fp := hfr p hpK
    obtain ⟨q0, q1⟩ := bst_bounds (m := n + 16384) (by omega) (by omega) (pre.map (·.1.1))
    have n1 : w1.heap.size + 1 ≠ w.heap.size := by omega
    have n2 : w1.heap.size + 1 + 1 ≠ w.heap.size := by omega
    rw [hp]
    clear hr hfr hp
    obtain ⟨q, hq⟩ : ∃ q, (bst (n + 16384) (pre.map (·.1.1))).2 = q := ⟨_, rfl⟩
    have HQ := Lib.hid hq
    rw [hq] at hn q0 q1
    clear hq
    trace "T4"; gi_wp2
    trace "T5"; refine ⟨(KeepsOthers.setCell _ _ _).trans (KeepsOthers.setCell _ _ _), KpB.step n1 (by omega) (by omega), ?_, (hb.setCell (by simp; omega) _).setCell (by simp) _⟩
    have hst := HB.out.step HP.out hpK n1 n2 (by omega)
    rw [HQ.out] at hst
    exact hst
  case done =>
    trace "T6"; rintro D ys W hD hys ⟨hB, hb⟩ hK
    have HY := Lib.hid (V.out ys hys)
    obtain ⟨hn, hfn, hr, hfr, hs⟩ := hB
    have c0 := hr 0 (by omega); have c1 := hr 1 (by omega)
    clear hr hfr hys
    gi_wp2
    trace "T7"; refine ⟨by simp, .inl ⟨_, _, rfl, run_takeDeferred hK, ?_⟩⟩
    exact ⟨_, results_tmp rfl _ _ _, by rw [HY.out]; rfl, hb.trans (belowK_b (w := w) (Nat.le_refl _) W D _ _ (by simp at hD; omega) hK rfl rfl)⟩
  case stop =>
    rintro D c pre W _ _ h _
    exact h.elim

set_option maxRecDepth 100000 in
set_option maxHeartbeats 2000000 in
theorem bytes_k2 (n : Int) (h0 : 16384 ≤ n) (h1 : n < 1073741824) (w : World) (hk : KTab w) :
    CallsIn Fence.wide 6 Tryd.prog 73 #[.int .i64 n] w fun e w' => e = .returned (.string ⟨(vbytes n).toArray⟩) ∧ Below w.heap.size w w' := by
  have E : Hid (kindN n = 2) := Lib.hid (by unfold kindN; rw [if_neg (by omega), if_neg (by omega)])
  have V : Hid (∀ ys : List (BX 4), ys.map (·.1.1) = downs 4 4 → vbytes n = [byteOf ((bst (n + 2147483648) (ys.map (·.1.1))).1 0), byteOf ((bst (n + 2147483648) (ys.map (·.1.1))).1 1), byteOf ((bst (n + 2147483648) (ys.map (·.1.1))).1 2), byteOf ((bst (n + 2147483648) (ys.map (·.1.1))).1 3)]) := Lib.hid (fun ys hys => by
    rw [hys]
    unfold vbytes
    rw [if_neg (by omega), if_neg (by omega)]
    have e0 : (bst (n + 2147483648) (downs 4 4)).1 0 = (n + 2147483648) / 256 / 256 / 256 % 256 := rfl
    have e1 : (bst (n + 2147483648) (downs 4 4)).1 1 = (n + 2147483648) / 256 / 256 % 256 := rfl
    have e2 : (bst (n + 2147483648) (downs 4 4)).1 2 = (n + 2147483648) / 256 % 256 := rfl
    have e3 : (bst (n + 2147483648) (downs 4 4)).1 3 = (n + 2147483648) % 256 := rfl
    have g0 : (n + 2147483648) / 256 / 256 / 256 % 256 = 128 + n / 16777216 := by omega
    have g1 : (n + 2147483648) / 256 / 256 % 256 = n / 65536 % 256 := by omega
    have g2 : (n + 2147483648) / 256 % 256 = n / 256 % 256 := by omega
    have g3 : (n + 2147483648) % 256 = n % 256 := by omega
    rw [e0, g0, e1, g1, e2, g2, e3, g3])
  have HK := Lib.hid hk
  have hkl := hk.lt
  clear hk
  have hmk : ∀ w : World, (Instr.makeSlice 134 (.int .i64 4) (.int .i64 4)).run Tryd.prog w = .ok (.slice (some ⟨w.heap.size, 0, none⟩) 4 4) (w.alloc (.cells #[.int .u8 0, .int .u8 0, .int .u8 0, .int .u8 0] 5)) := fun _ => by kernel_rfl
  have cv := conv4
  refine callsIn_of_wp_marks Tryd.func73 rfl trivial ?_ rfl
  simp only [Tryd.ntmps73, List.size_toArray, List.length_cons, List.length_nil, Nat.reduceAdd, Nat.reduceSub, Array.replicate_succ, Array.replicate_zero, List.push_toArray, List.append_toArray, List.nil_append, List.cons_append]
  gi_wp2_with (first | (refine ⟨trivial, ?_⟩; gi_at_call 101; refine (callsIn_wide.2 (kind_any n _ (HK.out.alloc _))).mono ?_; rintro e w1 ⟨rfl, hb1⟩; rw [E.out]; (first | (refine keepk (w.heap.size) hb1 (by first | assumption | (simp; omega) | (simp; done)) ?_; intro lk ck fk)); obtain ⟨k0, k1, k2, k3, k4, k5⟩ := (HK.out.alloc _).later hb1) | (refine ⟨trivial, ?_⟩; gi_at_call 102; refine (backward_in Fence.wide _ trivial rfl _ _ _ _).mono ?_; rintro e w' ⟨rfl, rfl⟩))
  have u1 : w.heap.size < w1.heap.size + 1 := by omega
  have u2 : w.heap.size < w1.heap.size + 1 + 1 := by omega
  have u3 : w.heap.size < w1.heap.size + 1 + 1 + 1 := by omega
  trace "T1"; refine wpIn_rangeFunc_ownF rfl (by omega) (gf := 118) (lb := #[.pointer (some ⟨w1.heap.size + 1 + 1 + 1, 0, none⟩)]) rfl trivial (enters_of Tryd.func118 (by kernel_rfl) rfl)
    (back_stops Fence.wide _ trivial rfl (by omega) (w1.heap.size + 1 + 1 + 1) (w1.heap.size + 1) 4 (by omega) _ (by go_simp) (fun j hj => by
      match j, hj with
      | 0, _ => exact ⟨0, by go_simp⟩
      | 1, _ => exact ⟨0, by go_simp⟩
      | 2, _ => exact ⟨0, by go_simp⟩
      | 3, _ => exact ⟨0, by go_simp⟩) (by first | (simp; done) | (simp; omega)) (by first | (simp; done) | (simp; omega))) KpB.t KpB.b (Below.refl _ _) (fun _ => rfl)
    (fun pre W => BI w w.heap.size (w1.heap.size + 1) (w1.heap.size + 1 + 1) 4 (n + 2147483648) pre W ∧ Below w.heap.size w W)
    (fun _ _ _ => False)
    (OwnFrom.and (Own.from (BI.own _ _ _ _ _ _) _) (ownFrom_below (Nat.le_refl _) (by simp; omega)))
    (fun _ _ _ _ _ hs _ _ => hs)
    ⟨⟨by show _ = some (Value.int .i64 (n + 2147483648)); go_simp, by go_simp, fun j hj => (by
      match j, hj with
      | 0, _ => show _ = some (Value.int .u8 0); go_simp
      | 1, _ => show _ = some (Value.int .u8 0); go_simp
      | 2, _ => show _ = some (Value.int .u8 0); go_simp
      | 3, _ => show _ = some (Value.int .u8 0); go_simp), fun j hj => (by go_simp), by go_simp⟩, (by refine Since.out ?_; repeat (first | with_reducible assumption | with_reducible exact Since.refl _ | with_reducible refine Since.later ?_ (by with_reducible assumption) | with_reducible refine Since.only ?_ (by with_reducible assumption) (by first | assumption | omega | (simp; done) | (simp; omega)) | with_reducible refine Since.alloc ?_ _ | with_reducible refine Since.drewN ?_ _ | with_reducible refine Since.drew ?_ | with_reducible refine Since.set ?_ (by first | assumption | omega | (simp; done) | (simp; omega)) _))⟩
    (fun x => { tmps := #[.int .i64 n, .pointer (some ⟨w.heap.size, 0, none⟩), .string ⟨#[]⟩, .int .i64 2, .pointer (some ⟨w1.heap.size, 0, none⟩), .pointer (some ⟨w1.heap.size + 1 + 1, 0, none⟩), .int .i64 x.1.1, .int .i64 n, .int .i64 2, .int .i64 2, .pointer (some ⟨0, 4, none⟩), .agg #[.int .i64 4, .int .i64 1073741824], .int .i64 n, .int .i64 2, .pointer (some ⟨w1.heap.size, 1, none⟩), .int .i64 1073741824, .int .i64 2147483648, .int .i64 (n + 2147483648), .pointer (some ⟨w1.heap.size, 0, none⟩), .int .i64 4, .slice (some ⟨w1.heap.size + 1, 0, none⟩) 4 4, .slice (some ⟨w1.heap.size + 1, 0, none⟩) 4 4, .func (.func 118) #[] #[.pointer (some ⟨w1.heap.size + 1 + 1 + 1, 0, none⟩)], .int .i64 x.1.1, .int .u8 x.1.2, undef, undef, undef, undef, undef, undef, undef, undef, undef], defers := [] }) ?assign ?body ?done ?stop
  case assign =>
    trace "T2"; intro l x W K hK
    gi_wp2
    exact hK
  case body =>
    trace "T3"; rintro l pre x W ⟨hB, hb⟩ _
    have HB := Lib.hid hB
    obtain ⟨hn, hfn, hr, hfr, hs⟩ := hB
    obtain ⟨p, hp⟩ := Int.eq_ofNat_of_zero_le x.2.1
    have HP := Lib.hid hp
    have hpK : p < 4 := by have := x.2.2; omega
    have cp := hr p hpK
    have fp := hfr p hpK
    obtain ⟨q0, q1⟩ := bst_bounds (m := n + 2147483648) (by omega) (by omega) (pre.map (·.1.1))
    have n1 : w1.heap.size + 1 ≠ w.heap.size := by omega
    have n2 : w1.heap.size + 1 + 1 ≠ w.heap.size := by omega
    rw [hp]
    clear hr hfr hp
    obtain ⟨q, hq⟩ : ∃ q, (bst (n + 2147483648) (pre.map (·.1.1))).2 = q := ⟨_, rfl⟩
    have HQ := Lib.hid hq
    rw [hq] at hn q0 q1
    clear hq
    trace "T4"; gi_wp2
    trace "T5"; refine ⟨(KeepsOthers.setCell _ _ _).trans (KeepsOthers.setCell _ _ _), KpB.step n1 (by omega) (by omega), ?_, (hb.setCell (by simp; omega) _).setCell (by simp) _⟩
    have hst := HB.out.step HP.out hpK n1 n2 (by omega)
    rw [HQ.out] at hst
    exact hst
  case done =>
    trace "T6"; rintro D ys W hD hys ⟨hB, hb⟩ hK
    have HY := Lib.hid (V.out ys hys)
    obtain ⟨hn, hfn, hr, hfr, hs⟩ := hB
    have c0 := hr 0 (by omega); have c1 := hr 1 (by omega); have c2 := hr 2 (by omega); have c3 := hr 3 (by omega)
    clear hr hfr hys
    gi_wp2
    trace "T7"; refine ⟨by simp, .inl ⟨_, _, rfl, run_takeDeferred hK, ?_⟩⟩
    exact ⟨_, results_tmp rfl _ _ _, by rw [HY.out]; rfl, hb.trans (belowK_b (w := w) (Nat.le_refl _) W D _ _ (by simp at hD; omega) hK rfl rfl)⟩
  case stop =>
    rintro D c pre W _ _ h _
    exact h.elim

theorem bytes_any (n : Int) (n0 : 0 ≤ n) (n1 : n ≤ 1073741823) (w : World) (hk : KTab w) :
    Calls Tryd.prog 73 #[.int .i64 n] w fun e w' => e = .returned (.string ⟨(vbytes n).toArray⟩) ∧ Below w.heap.size w w' := by
  refine (callsIn_wide (n := 6)).1 ?_
  by_cases a : n < 64
  · exact bytes_k0 n n0 a w hk
  · by_cases b : n < 16384
    · exact bytes_k1 n (by omega) b w hk
    · exact bytes_k2 n (by omega) (by omega) w hk
end Go.Proofs.YthnolkbolmbkdaaDoor
