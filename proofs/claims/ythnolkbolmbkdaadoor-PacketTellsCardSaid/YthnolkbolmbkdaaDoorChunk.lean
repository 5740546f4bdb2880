/- slices.Chunk over ints by two. Condition: the slice holds an even count of numbers. -/
import Derived.Test.YthnolkbolmbkdaaDoorCalm
import Derived.Test.YthnolkbolmbkdaaDoorFrm
import Derived.Test.YthnolkbolmbkdaaDoorLst
import Derived.Test.YthnolkbolmbkdaaDoorVBytes
namespace Go.Proofs.YthnolkbolmbkdaaDoor
open Go.ChangeShapes Go.WideShapes Go.ChangeAt Go.RowKit Go.Shelf
set_option linter.unusedVariables false
attribute [local go_sem] Oper.semAt_some

abbrev CX (K : Nat) := { r : Nat // r < K }
abbrev cxV (b off : Nat) (r : Nat) : Value := .slice (some ⟨b, off + 2 * r, none⟩) 2 2
/-- what a round keeps -/
def KpC (gs gn : Nat) (W W' : World) : Prop := (∀ v, W.cell? ⟨gs, 0, none⟩ = some v → W'.cell? ⟨gs, 0, none⟩ = some v) ∧ ∀ v, W.cell? ⟨gn, 0, none⟩ = some v → W'.cell? ⟨gn, 0, none⟩ = some v
theorem KpC.t {gs gn : Nat} {A B C : World} (h : KpC gs gn A B) (k : KpC gs gn B C) : KpC gs gn A C := ⟨fun v x => k.1 v (h.1 v x), fun v x => k.2 v (h.2 v x)⟩
theorem KpC.b {gs gn B : Nat} (W : World) (l : Nat) (o o' : Obj) (_ : B ≤ l) (h : W.heap[l]? = some o) (hc : o.isCells = false) (_ : o.isWalk = false) : KpC gs gn W (W.putObj l o') :=
  ⟨fun v x => cell_kept x (grownBy_putObj' W l o') (fun r e => by cases e; exact ⟨o, h, hc⟩), fun v x => cell_kept x (grownBy_putObj' W l o') (fun r e => by cases e; exact ⟨o, h, hc⟩)⟩

set_option maxRecDepth 100000 in
set_option maxHeartbeats 2000000 in
theorem chunk1_in (F : Fence) (n : Nat) (hf : F.fn 119) (hro : F.round = none) (hn : 1 ≤ n) (l gs gn b off K cap : Nat) (hc : 2 * K ≤ cap) (hK : K ≤ 1000) (hm : cap ≤ 9223372036854775807) (J Jx : List (CX K) → World → Prop) (hJd : ∀ pre W, J pre W → J pre W.drew)
    (hY : ∀ pre x W, J pre W → pre.length < K → YieldAt F (n - 1) Tryd.prog l #[cxV b off x.1] W fun e W' =>
      (e = .returned (.bool true) ∧ J (pre ++ [x]) W' ∧ KpC gs gn W W') ∨ (e = .returned (.bool false) ∧ Jx (pre ++ [x]) W'))
    (W : World) (hs : W.cell? ⟨gs, 0, none⟩ = some (.slice (some ⟨b, off, none⟩) (2 * K) cap)) (hg : W.cell? ⟨gn, 0, none⟩ = some (.int .i64 2)) (h0 : J [] W) :
    CallsIn F n Tryd.prog 119 #[.func (.yield l) #[] #[], .pointer (some ⟨gs, 0, none⟩), .pointer (some ⟨gn, 0, none⟩)] W fun e W' => (∃ v, e = .returned v) ∧
      ((∃ ys : List (CX K), ys.map (·.1) = List.range K ∧ J ys W') ∨ (∃ pre : List (CX K), True ∧ Jx pre W')) := by
  have HY := Lib.hid hY
  clear hY
  refine callsIn_of_wp Tryd.func119 rfl hf ?_ hro
  simp only [Tryd.ntmps119, List.size_toArray, List.length_cons, List.length_nil, Nat.reduceAdd, Nat.reduceSub, Array.replicate_succ, Array.replicate_zero, List.push_toArray, List.append_toArray, List.nil_append, List.cons_append]
  gi_wp2
  gi_loopw [4] (fun i wr => ∃ (r : Nat) (pre : List (CX K)), r ≤ K ∧ i = .int .i64 ((2 * r : Nat) : Int) ∧ pre.map (·.1) = List.range r ∧ J pre wr ∧ wr.cell? ⟨gs, 0, none⟩ = some (.slice (some ⟨b, off, none⟩) (2 * K) cap) ∧ wr.cell? ⟨gn, 0, none⟩ = some (.int .i64 2))
    (fun i _ => 2 * K - (intOf i).toNat)
  case atStart => exact ⟨0, [], Nat.zero_le _, rfl, rfl, h0, hs, hg⟩
  case round =>
    obtain ⟨r, pre, hr, rfl, hp, hJ, hsr, hgr⟩ := hrel
    have HP := Lib.hid hp
    clear hp
    by_cases hlt : r < K
    case neg =>
      obtain rfl : r = K := by omega
      have HJ := Lib.hid hJ
      have hf : decide (((2 * r : Nat) : Int) < ((2 * r : Nat) : Int)) = false := by simp
      clear hJ
      gi_wp2
      go_end0
      exact ⟨⟨_, rfl⟩, .inl ⟨pre, HP.out, HJ.out⟩⟩
    have hlen : pre.length = r := by have := congrArg List.length HP.out; simpa using this
    have HR := HY.out pre ⟨r, hlt⟩ wr.drew (hJd _ _ hJ) (by omega)
    have HRR := Lib.hid HR
    clear hJ hlen HR hs hg h0
    obtain ⟨i, hi⟩ : ∃ i, 2 * r = i := ⟨_, rfl⟩
    obtain ⟨N, hN⟩ : ∃ N, 2 * K = N := ⟨_, rfl⟩
    have HI := Lib.hid hi
    have HN := Lib.hid hN
    have h2 : i + 2 ≤ N := by omega
    rw [hN] at hc hsr
    have hlt2 : (i : Int) < (N : Int) := by omega
    have hnc : ¬ cap = i := by omega
    have hle : (i : Int) + 2 ≤ (cap : Int) := by omega
    have hmin : min (2 : Int) ((N - i : Nat) : Int) = 2 := by omega
    have hto : ((i : Int) + 2).toNat = i + 2 := by omega
    have hto2 : i + 2 - i = 2 := by omega
    have hci : i ≤ 1000000000000 := by omega
    rw [hi, hN]
    have HRR' : Hid (YieldAt F (n - 1) Tryd.prog l #[.slice (some ⟨b, off + i, none⟩) 2 2] wr.drew fun e W' =>
      (e = .returned (.bool true) ∧ J (pre ++ [⟨r, hlt⟩]) W' ∧ KpC gs gn wr.drew W') ∨ (e = .returned (.bool false) ∧ Jx (pre ++ [⟨r, hlt⟩]) W')) := Lib.hid (by rw [← hi]; exact HRR.out)
    have HM : Hid (2 * (r + 1) = i + 2) := Lib.hid (by omega)
    clear HRR hi hN hr
    trace "A"; gi_wp2
    trace "B"; gi_region
    all_goals
      obtain ⟨fn, tmps, assign, body, hy, hR⟩ := HRR'.out
      (try dsimp only at hy)
      have HR := Lib.hid hR
      clear hR
      trace "C"; gi_wp2
      trace "D"; refine HR.out.mono ?_
      rintro e W3 (⟨rfl, hJ3, hk3⟩ | ⟨rfl, hJx3⟩)
      · have hs3 := hk3.1 _ hsr
        have hg3 := hk3.2 _ hgr
        have HJ3 := Lib.hid hJ3
        clear hJ3 hk3
        trace "E"; gi_wp2
        go_roundw
        case rel => exact ⟨r + 1, pre ++ [⟨r, hlt⟩], by omega, by rw [HM.out]; go_num, by rw [List.map_append, HP.out, List.range_succ]; rfl, HJ3.out, hs3, hg3⟩
        case measure => have := HN.out; simp [intOf]; omega
      · trace "F"; gi_wp2
        refine bodyPost_ret (results_none rfl _ _ _) rfl ?_
        exact ⟨⟨_, rfl⟩, .inr ⟨_, trivial, hJx3⟩⟩

theorem drew_grown (w : World) : w.grownBy w.drew none := ⟨rfl, rfl, rfl, Nat.le_refl _, fun _ _ _ => rfl⟩
theorem chunk_stops (F : Fence) (n : Nat) (hf : F.fn 119) (hro : F.round = none) (hn : 1 ≤ n) (gs gn b off K cap : Nat) (hc : 2 * K ≤ cap) (hK : K ≤ 1000) (hm : cap ≤ 9223372036854775807) (w : World)
    (hs : w.cell? ⟨gs, 0, none⟩ = some (.slice (some ⟨b, off, none⟩) (2 * K) cap)) (hg : w.cell? ⟨gn, 0, none⟩ = some (.int .i64 2)) (hsl : gs < w.heap.size) (hgl : gn < w.heap.size) :
    SeqStopsK F n Tryd.prog 119 #[.pointer (some ⟨gs, 0, none⟩), .pointer (some ⟨gn, 0, none⟩)] (fun x : CX K => #[cxV b off x.1]) (KpC gs gn) (fun ys => ys.map (·.1) = List.range K) (fun _ => True) K w := fun l J Jx W hW hJ _ hY h0 =>
  chunk1_in F n hf hro hn l gs gn b off K cap hc hK hm J Jx (fun pre W' h => hJ _ _ _ none h (drew_grown W') (fun r e => by cases e)) hY W ((hW.cell (p := ⟨gs, 0, none⟩) hsl).trans hs) ((hW.cell (p := ⟨gn, 0, none⟩) hgl).trans hg) h0
set_option maxHeartbeats 1000000 in
theorem chunk_in (F : Fence) (n : Nat) (hf : F.fn 108) (hro : F.round = none) (a : Option Addr) (len cap : Nat) (w : World) :
    CallsIn F n Tryd.prog 108 #[.slice a len cap, .int .i64 2] w fun e w' => e = .returned (.func (.func 119) #[] #[.pointer (some ⟨w.heap.size, 0, none⟩), .pointer (some ⟨w.heap.size + 1, 0, none⟩)]) ∧ w' = (w.alloc (.cells #[.slice a len cap] 50)).alloc (.cells #[.int .i64 2] 3) := by
  refine callsIn_of_wp Tryd.func108 rfl hf ?_ hro
  simp only [Tryd.ntmps108, List.size_toArray, List.length_cons, List.length_nil, Nat.reduceAdd, Nat.reduceSub, Array.replicate_succ, Array.replicate_zero, List.push_toArray, List.append_toArray, List.nil_append, List.cons_append]
  gi_wp2
  go_ret
  exact ⟨rfl, rfl⟩
end Go.Proofs.YthnolkbolmbkdaaDoor
