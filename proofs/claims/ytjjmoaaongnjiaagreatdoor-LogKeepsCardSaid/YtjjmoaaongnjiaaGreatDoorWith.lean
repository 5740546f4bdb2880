/- Contract of the reference's With. Condition: the ranges can be read, and each number may be one. -/
import Derived.Test.YtjjmoaaongnjiaaGreatDoorWithLaw
import Derived.Test.YtjjmoaaongnjiaaGreatDoorRngBad
namespace Go.Proofs.YtjjmoaaongnjiaaGreatDoor
open Go.ChangeShapes Go.WideShapes Go.ChangeAt Go.RowKit
set_option linter.unusedVariables false

theorem blocks_zero {A : Option Addr} {n c k : Nat} (h : k ∈ blocks (.slice A 0 0)) : k ∈ blocks (.slice A n c) := by cases A <;> exact h
theorem wstep_ok {s : WSt} {r : Rng} (hs : okN s.x) (hr : okN r) : okN (wstep s r).x := by
  unfold wstep
  split
  · exact hs
  · split
    · split <;> exact hs
    · obtain ⟨⟨a1, a2⟩, a3, a4⟩ := hs
      obtain ⟨⟨b1, b2⟩, b3, b4⟩ := hr
      refine ⟨⟨?_, ?_⟩, ?_, ?_⟩ <;> simp only <;> split <;> omega
theorem wup_ok {L : List Rng} {x : Rng} (hL : ∀ r ∈ L, okN r) (hx : okN x) : ∀ i, i ≤ L.length → okN (wup L x i).x
  | 0, _ => hx
  | i + 1, h => by
    rw [wup_succ (by omega)]
    exact wstep_ok (wup_ok hL hx i (by omega)) (by rw [rat_get (by omega)]; exact hL _ (List.getElem_mem _))
/-- what With holds in memory -/
structure WR (w wr : World) (out : List Rng) (x : Rng) (v : Value) : Prop where
  ls : Lst wr 34 2 v (out.map rngRow)
  nw : ∀ k, k ∈ blocks v → w.heap.size + 1 ≤ k
  bx : BlockIs wr w.heap.size 34 #[.int .i64 x.lo, .int .i64 x.hi]
  since : Since w wr
theorem WR.later {w wr wx : World} {out : List Rng} {x : Rng} {v : Value} (h : WR w wr out x v) (hb : Below wr.heap.size wr wx) : WR w wx out x v := ⟨h.ls.later hb, h.nw, h.bx.later hb, h.since.later hb⟩
theorem WR.push {w W w' : World} {out : List Rng} {x r : Rng} {v : Value} {g n c : Nat} (h : WR w W out x v) (hl : Lst w' 34 2 (.slice (some ⟨g, 0, none⟩) n c) (out.map rngRow ++ [rngRow r])) (ho : Out W w' (blocks v)) (hq : g ∈ blocks v ∨ g = W.heap.size) : WR w w' (out ++ [r]) x (.slice (some ⟨g, 0, none⟩) n c) := by
  refine ⟨by rw [List.map_append]; exact hl, fun k hk => ?_, ho.block' h.bx (fun hm => by have := h.nw _ hm; omega), h.since.out' ho (fun k hk => by have := h.nw k hk; omega)⟩
  have hk' : g = k := by simpa [Value.ownBlock] using hk
  subst hk'
  rcases hq with h1 | h1
  · exact h.nw _ h1
  · have := h.bx.lt; omega
theorem WR.put {w W : World} {out : List Rng} {x : Rng} {v : Value} (h : WR w W out x v) : (∀ a, WR w (W.setCell ⟨w.heap.size, 0, none⟩ (.int .i64 a)) out ⟨a, x.hi⟩ v) ∧ (∀ b, WR w (W.setCell ⟨w.heap.size, 1, none⟩ (.int .i64 b)) out ⟨x.lo, b⟩ v) := by
  have hs : ∀ u j, Out W (W.setCell ⟨w.heap.size, j, none⟩ u) [w.heap.size] := fun u j => (Out.refl W _).put (p := ⟨w.heap.size, j, none⟩) (Or.inl (by simp)) u
  exact ⟨fun a => ⟨h.ls.kept (hs _ _) (fun k hk hm => by have := h.nw k hk; rw [List.mem_singleton.1 hm] at this; omega), h.nw, h.bx.put 0 _, h.since.out' (hs _ _) (by simp)⟩,
    fun b => ⟨h.ls.kept (hs _ _) (fun k hk hm => by have := h.nw k hk; rw [List.mem_singleton.1 hm] at this; omega), h.nw, h.bx.put 1 _, h.since.out' (hs _ _) (by simp)⟩⟩
set_option maxHeartbeats 6400000 in
set_option maxRecDepth 100000 in
theorem rwith (A : Option Addr) (n cap : Nat) (L : List Rng) (x : Rng) (w : World) (hn : L.length = n) (hL : ∀ r ∈ L, okN r) (hx : okN x) (hm : n ≤ 1000) (h : Rd w 2 (.slice A n cap) (L.map rngRow)) :
    Calls Tryz.prog 14 #[.slice A n cap, .agg #[.int .i64 x.lo, .int .i64 x.hi]] w fun e w' => ∃ A' cap', e = .returned (.slice A' (withL L x).length cap') ∧ Lst w' 34 2 (.slice A' (withL L x).length cap') ((withL L x).map rngRow) ∧ Below w.heap.size w w' ∧ ∀ k, k ∈ blocks (.slice A' 0 0) → w.heap.size ≤ k := by
  have H := Lib.hid h
  have HN := Lib.hid hn
  have HU := Lib.hid (fun i (hi : i ≤ n) => wup_ok hL hx i (by omega))
  have HS := Lib.hid (fun i (hi : i < n) => wup_succ (x := x) (show i < L.length by omega))
  have HLE := Lib.hid (fun i (hi : i ≤ n) => wup_len L x i (by omega))
  have HR := Lib.hid (fun i (hi : i < n) => show okN (rat L i) by rw [rat_get (by omega)]; exact hL _ (List.getElem_mem _))
  have HE : Hid (withL L x = if (wup L x n).put = true then (wup L x n).out else (wup L x n).out ++ [(wup L x n).x]) := Lib.hid (by rw [← hn]; rfl)
  clear h hn hL
  go_enter Tryz.func14, Tryz.ntmps14
  go_wp2_with fail
  trace "A"; go_loopw [5, 6, 7] (fun s5 s6 s7 wr => ∃ i : Nat, s7 = .int .i64 i ∧ i ≤ n ∧ s6 = .bool (wup L x i).put ∧ WR w wr (wup L x i).out (wup L x i).x s5) (fun _ _ s7 _ => n - (intOf s7).toNat)
  case atStart => exact ⟨0, rfl, Nat.zero_le _, rfl, Lst.nil _ _ _, by simp [Value.ownBlock], BlockIs.fresh _ _ _, (by refine Since.out ?_; repeat (first | with_reducible assumption | with_reducible exact Since.refl _ | with_reducible refine Since.later ?_ (by with_reducible assumption) | with_reducible refine Since.only ?_ (by with_reducible assumption) (by first | assumption | omega | (simp; done) | (simp; omega)) | with_reducible refine Since.alloc ?_ _ | with_reducible refine Since.drewN ?_ _ | with_reducible refine Since.drew ?_ | with_reducible refine Since.set ?_ (by first | assumption | omega | (simp; done) | (simp; omega)) _))⟩
  case round =>
    obtain ⟨i, rfl, hi, rfl, hW⟩ := hrel
    have hxo := HU.out i hi
    have hle := HLE.out i hi
    by_cases hlt : i < n
    case neg =>
      obtain rfl : i = n := by omega
      have hf : decide ((i : Int) < (i : Int)) = false := by simp
      generalize wup L x i = st at *
      obtain ⟨out, put, ⟨xl, xh⟩⟩ := st
      simp only at *
      clear hxo
      obtain ⟨A5, c5, hve, _, _, hA5⟩ := hW.ls.shape
      rw [List.length_map] at hve
      cases put with
      | true =>
        have HE2 := Lib.hid (HE.out.trans (if_pos rfl))
        have HW := Lib.hid hW
        subst hve
        clear hW
        trace "B"; go_wp2_with fail
        go_ret
        rw [HE2.out]
        exact ⟨A5, c5, rfl, HW.out.ls, HW.out.since.out, fun k hk => by have := HW.out.nw k (blocks_zero (by first | exact hk | simpa using hk)); omega⟩
      | false =>
        have HE2 := Lib.hid (HE.out.trans (if_neg (by decide)))
        have HW := Lib.hid hW
        have b0 : wr.cell? ⟨w.heap.size, 0, none⟩ = some (.int .i64 xl) := hW.bx.cell 0
        have b1 : wr.cell? ⟨w.heap.size, 1, none⟩ = some (.int .i64 xh) := hW.bx.cell 1
        have lb := hW.bx.lt
        have HLL : Hid ((out.map rngRow).length = out.length) := Lib.hid (List.length_map ..)
        clear hW
        trace "C"; go_wp2_with (at_builtin; refine wpList_push rfl _ _ 31 rfl 34 2 16 Tryz.elRange u5 (out.map rngRow) rfl ((HW.out.later ((Since.refl wr).alloc _)).ls) wr.heap.size 1 [.int .i64 xl, .int .i64 xh] rfl rfl (rngRow_one ⟨xl, xh⟩).2 (BlockIs.fresh _ _ _) (by rw [HLL.out]; simp at hle; omega) ?_; intro q4 c4 w4 hl4 ho4 hq4 hlt4; rw [HLL.out] at hl4; (try rw [HLL.out]))
        go_ret
        have hF := (HW.out.later ((Since.refl wr).alloc _)).push (r := ⟨xl, xh⟩) hl4 ho4 hq4
        rw [HE2.out]
        have hlen : (out ++ [(⟨xl, xh⟩ : Rng)]).length = out.length + 1 := by simp
        rw [hlen]
        exact ⟨_, c4, rfl, hF.ls, hF.since.out, fun k hk => by have := hF.nw k (blocks_zero (by first | exact hk | simpa using hk)); omega⟩
    have hlt' : (i : Int) < (n : Int) := by omega
    have hiL : i < L.length := by rw [HN.out]; exact hlt
    obtain ⟨b, off, rfl, hbl, hc⟩ := H.out.rng (i := i) hiL
    obtain ⟨c0, c1⟩ := hc wr hW.since i hiL
    have lb : b < wr.heap.size := Nat.lt_of_lt_of_le hbl hW.since.le
    have hst := HS.out i hlt
    have hle2 := HLE.out (i + 1) (by omega)
    have hro := HR.out i hlt
    generalize rat L i = r at *
    rw [hst] at hle2
    clear hc hiL
    generalize wup L x i = st at *
    obtain ⟨out, put, ⟨xl, xh⟩⟩ := st
    obtain ⟨rl, rh⟩ := r
    obtain ⟨⟨p1, p2⟩, p3, p4⟩ := hxo
    obtain ⟨⟨q1, q2⟩, q3, q4⟩ := hro
    simp only at *
    have HST1 := Lib.hid hst
    clear hst
    have HW := Lib.hid hW
    have b0 : wr.cell? ⟨w.heap.size, 0, none⟩ = some (.int .i64 xl) := hW.bx.cell 0
    have b1 : wr.cell? ⟨w.heap.size, 1, none⟩ = some (.int .i64 xh) := hW.bx.cell 1
    have fb := hW.bx.free
    have lw := hW.bx.lt
    have nb : w.heap.size ≠ wr.heap.size := by omega
    have nb2 : wr.heap.size ≠ w.heap.size := by omega
    have HLL : Hid ((out.map rngRow).length = out.length) := Lib.hid (List.length_map ..)
    have hlo : out.length ≤ 1002 := by split at hle <;> omega
    clear hW
    by_cases h1 : xh + 1 < rl
    · have HST : Hid (wstep ⟨out, put, ⟨xl, xh⟩⟩ ⟨rl, rh⟩ = ⟨out ++ [⟨rl, rh⟩], put, ⟨xl, xh⟩⟩) := Lib.hid (by unfold wstep; rw [if_pos h1])
      trace "D"; go_wp2_with (at_builtin; refine wpList_push rfl _ _ 31 rfl 34 2 16 Tryz.elRange u5 (out.map rngRow) rfl (((HW.out.later ((Since.refl wr).alloc _)).later ((Since.refl _).alloc _)).ls) (wr.heap.size + 1) 1 [.int .i64 rl, .int .i64 rh] rfl rfl (rngRow_one ⟨rl, rh⟩).2 (BlockIs.fresh_at (by simp)) (by rw [HLL.out]; omega) ?_; intro q4 c4 w4 hl4 ho4 hq4 hlt4; rw [HLL.out] at hl4; (try rw [HLL.out]))
      have hF := (((HW.out.later ((Since.refl wr).alloc _)).later ((Since.refl _).alloc _))).push (r := ⟨rl, rh⟩) hl4 ho4 hq4
      have HF := Lib.hid hF
      clear hF hl4 ho4 hq4
      go_roundw
      case rel => exact ⟨i + 1, by go_num, by omega, by rw [HST1.out, HST.out], by rw [HST1.out, HST.out]; exact HF.out⟩
      case measure => simp [intOf]; omega
    have h1' : decide (xh + 1 < rl) = false := by simpa using h1
    by_cases h2 : rh < xl - 1
    · cases put with
      | true =>
        have HST : Hid (wstep ⟨out, true, ⟨xl, xh⟩⟩ ⟨rl, rh⟩ = ⟨out ++ [⟨rl, rh⟩], true, ⟨xl, xh⟩⟩) := Lib.hid (by unfold wstep; rw [if_neg h1, if_pos h2, if_pos rfl])
        clear h1
        trace "E"; go_wp2_with (at_builtin; refine wpList_push rfl _ _ 31 rfl 34 2 16 Tryz.elRange u5 (out.map rngRow) rfl (((HW.out.later ((Since.refl wr).alloc _)).later ((Since.refl _).alloc _)).ls) (wr.heap.size + 1) 1 [.int .i64 rl, .int .i64 rh] rfl rfl (rngRow_one ⟨rl, rh⟩).2 (BlockIs.fresh_at (by simp)) (by rw [HLL.out]; omega) ?_; intro q4 c4 w4 hl4 ho4 hq4 hlt4; rw [HLL.out] at hl4; (try rw [HLL.out]))
        have hF := (((HW.out.later ((Since.refl wr).alloc _)).later ((Since.refl _).alloc _))).push (r := ⟨rl, rh⟩) hl4 ho4 hq4
        have HF := Lib.hid hF
        clear hF hl4 ho4 hq4
        go_roundw
        case rel => exact ⟨i + 1, by go_num, by omega, by rw [HST1.out, HST.out], by rw [HST1.out, HST.out]; exact HF.out⟩
        case measure => simp [intOf]; omega
      | false =>
        have HST : Hid (wstep ⟨out, false, ⟨xl, xh⟩⟩ ⟨rl, rh⟩ = ⟨out ++ [⟨xl, xh⟩] ++ [⟨rl, rh⟩], true, ⟨xl, xh⟩⟩) := Lib.hid (by unfold wstep; rw [if_neg h1, if_pos h2, if_neg (by simp)])
        clear h1
        trace "F"; go_wp2_with (first | (at_builtin; refine wpList_push rfl _ _ 31 rfl 34 2 16 Tryz.elRange u5 (out.map rngRow) rfl (((HW.out.later ((Since.refl wr).alloc _)).later ((Since.refl _).alloc _)).ls) (wr.heap.size + 1) 1 [.int .i64 xl, .int .i64 xh] rfl rfl (rngRow_one ⟨xl, xh⟩).2 (BlockIs.fresh_at (by simp)) (by rw [HLL.out]; omega) ?_; intro q4 c4 w4 hl4 ho4 hq4 hlt4; rw [HLL.out] at hl4; (try rw [HLL.out]); have HF := Lib.hid ((((HW.out.later ((Since.refl wr).alloc _)).later ((Since.refl _).alloc _))).push (r := ⟨xl, xh⟩) hl4 ho4 hq4); have hbx := ho4.block' (g := wr.heap.size) (t := 34) (cs := #[.int .i64 rl, .int .i64 rh]) ((BlockIs.fresh _ _ _).alloc _) (fun hm => by have := HW.out.ls.lt _ hm; omega); have e0 : w4.cell? ⟨wr.heap.size, 0, none⟩ = some (.int .i64 rl) := hbx.cell 0; have e1 : w4.cell? ⟨wr.heap.size, 1, none⟩ = some (.int .i64 rh) := hbx.cell 1; have le := hbx.lt; clear hl4 ho4 hq4 hbx b0 b1) | (at_builtin; refine wpList_push rfl _ _ 31 rfl 34 2 16 Tryz.elRange (.slice (some ⟨q4, 0, none⟩) (out.length + 1) c4) ((out ++ [(⟨xl, xh⟩ : Rng)]).map rngRow) rfl ((HF.out.later ((Since.refl w4).alloc _)).ls) w4.heap.size 1 [.int .i64 rl, .int .i64 rh] rfl rfl (rngRow_one ⟨rl, rh⟩).2 (BlockIs.fresh _ _ _) (by simp; omega) ?_; intro q6 c6 w6 hl6 ho6 hq6 hlt6; rw [List.length_map, List.length_append, List.length_singleton] at hl6; (try rw [List.length_map, List.length_append, List.length_singleton]); have HF2 := Lib.hid ((HF.out.later ((Since.refl w4).alloc _)).push (r := ⟨rl, rh⟩) hl6 ho6 hq6); clear hl6 ho6 hq6))
        go_roundw
        case rel => exact ⟨i + 1, by go_num, by omega, by rw [HST1.out, HST.out], by rw [HST1.out, HST.out]; exact HF2.out⟩
        case measure => simp [intOf]; omega
    have h2' : decide (rh < xl - 1) = false := by simpa using h2
    have HST : Hid (wstep ⟨out, put, ⟨xl, xh⟩⟩ ⟨rl, rh⟩ = ⟨out, put, ⟨if rl < xl then rl else xl, if xh < rh then rh else xh⟩⟩) := Lib.hid (by unfold wstep; rw [if_neg h1, if_neg h2])
    clear h1 h2
    by_cases h3 : rl < xl
    · have HW3 := Lib.hid (HW.out.put.1 rl)
      by_cases h4 : xh < rh
      · trace "G"; go_wp2_with fail
        go_roundw
        case rel => exact ⟨i + 1, by go_num, by omega, by rw [HST1.out, HST.out], by rw [HST1.out, HST.out, if_pos h3, if_pos h4]; exact (HW3.out.put.2 rh).later ((Since.refl _).alloc _)⟩
        case measure => simp [intOf]; omega
      · have h4' : decide (xh < rh) = false := by simpa using h4
        trace "I"; go_wp2_with fail
        go_roundw
        case rel => exact ⟨i + 1, by go_num, by omega, by rw [HST1.out, HST.out], by rw [HST1.out, HST.out, if_pos h3, if_neg h4]; exact HW3.out.later ((Since.refl _).alloc _)⟩
        case measure => simp [intOf]; omega
    · have h3' : decide (rl < xl) = false := by simpa using h3
      have HW3 := HW
      by_cases h4 : xh < rh
      · trace "J"; go_wp2_with fail
        go_roundw
        case rel => exact ⟨i + 1, by go_num, by omega, by rw [HST1.out, HST.out], by rw [HST1.out, HST.out, if_neg h3, if_pos h4]; exact (HW3.out.put.2 rh).later ((Since.refl _).alloc _)⟩
        case measure => simp [intOf]; omega
      · have h4' : decide (xh < rh) = false := by simpa using h4
        trace "K"; go_wp2_with fail
        go_roundw
        case rel => exact ⟨i + 1, by go_num, by omega, by rw [HST1.out, HST.out], by rw [HST1.out, HST.out, if_neg h3, if_neg h4]; exact HW3.out.later ((Since.refl _).alloc _)⟩
        case measure => simp [intOf]; omega
end Go.Proofs.YtjjmoaaongnjiaaGreatDoor
