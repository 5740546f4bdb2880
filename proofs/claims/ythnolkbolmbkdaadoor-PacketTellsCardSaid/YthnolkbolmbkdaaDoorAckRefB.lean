/- Contract of wireref1.Ack: the bytes of ranges that are right, and not none. Condition: the slice can be read. -/
import Derived.Test.YthnolkbolmbkdaaDoorAckB
import Derived.Test.YthnolkbolmbkdaaDoorVRef
namespace Go.Proofs.YthnolkbolmbkdaaDoor
open Go.ChangeShapes Go.WideShapes Go.ChangeAt Go.RowKit
set_option linter.unusedVariables false

set_option maxHeartbeats 3200000 in
set_option maxRecDepth 100000 in
theorem rack (A : Option Addr) (n cap : Nat) (L : List Rng) (w : World) (hn : L.length = n) (h0 : 0 < n) (h : Rd w 2 (.slice A n cap) (L.map rngRow)) (hE : rngE L = 0) :
    Calls Tryd.prog 36 #[.slice A n cap] w fun e w' => e = .returned (.string ⟨(ackB L).toArray⟩) ∧ Below w.heap.size w w' := by
  have H := Lib.hid h
  have HN := Lib.hid hn
  have hl12 : n ≤ 12 := by rw [← hn]; exact rngE_len hE
  have HO : Hid (∀ i, i < n → okN (rat L i) ∧ (rat L i).lo ≤ (rat L i).hi ∧ (0 < i → (rat L i).hi + 1 < (rat L (i-1)).lo)) := Lib.hid (fun i hi => rngOne_ok (rngE_each hE (by omega)))
  have HLN : Hid (∀ i, (ackUp L i).length ≤ 8 * i + 1) := Lib.hid (fun i => ackUp_len L (by omega) i)
  have HAB : Hid (ackB L = ackUp L n) := Lib.hid (by unfold ackB; rw [hn])
  have HU1 : Hid (ackUp L 1 = vbytes (rat L 0).hi ++ vbytes ((n : Int) - 1) ++ vbytes ((rat L 0).hi - (rat L 0).lo)) := Lib.hid (by rw [ackUp_one, hn])
  have HUS : Hid (∀ i, 0 < i → ackUp L (i + 1) = ackUp L i ++ vbytes ((rat L (i - 1)).lo - (rat L i).hi - 2) ++ vbytes ((rat L i).hi - (rat L i).lo)) := Lib.hid (fun i h => ackUp_succ L h)
  clear h hn hE
  obtain ⟨b, off, rfl, hbl, hc⟩ := H.out.rng (i := 0) (by rw [HN.out]; exact h0)
  have HC := Lib.hid hc
  obtain ⟨c0, c1⟩ := hc w (Since.refl w) 0 (by rw [HN.out]; exact h0)
  obtain ⟨⟨⟨a1, a2⟩, a3, a4⟩, a5, a6⟩ := HO.out 0 h0
  have g0 : w.cell? ⟨b, off, none⟩ = some (.int .i64 (rat L 0).lo) := by simpa using c0
  have g1 : w.cell? ⟨b, off + 1, none⟩ = some (.int .i64 (rat L 0).hi) := by simpa using c1
  clear hc c0 c1 a6
  generalize (rat L 0).lo = lo at *
  generalize (rat L 0).hi = hi2 at *
  go_enter Tryd.func36, Tryd.ntmps36
  go_wp2_with fail
  refine (rbytes_any hi2 a3 a4 _).mono ?_
  rintro e w1 ⟨rfl, hb1⟩
  have hs1 : Since w w1 := hb1
  go_wp2_with fail
  refine (rbytes_any ((n : Int) - 1) (by omega) (by omega) _).mono ?_
  rintro e w2 ⟨rfl, hb2⟩
  have hs2 := hs1.later hb2
  have d0 := hs2.cell hbl g0
  have d1 := hs2.cell hbl g1
  have lb : b < w2.heap.size := Nat.lt_of_lt_of_le hbl hs2.le
  have hw0 : IntKind.i64.wrap (hi2 - lo) = hi2 - lo := by simp [IntKind.wrap, IntKind.bits, IntKind.signed]; omega
  clear hb1 hb2 hs1 g0 g1
  trace "A"; go_wp2_with fail
  go_region_law (go_simp; go_at_call 74; refine (rbytes_any (hi2 - lo) (by omega) (by omega) _).mono ?_; rintro e w3 ⟨rfl, hb3⟩; have HS3 := Lib.hid (show Since w w3 from (by refine Since.out ?_; repeat (first | with_reducible assumption | with_reducible exact Since.refl _ | with_reducible refine Since.later ?_ (by with_reducible assumption) | with_reducible refine Since.only ?_ (by with_reducible assumption) (by first | assumption | omega | (simp; done) | (simp; omega)) | with_reducible refine Since.alloc ?_ _ | with_reducible refine Since.drewN ?_ _ | with_reducible refine Since.drew ?_ | with_reducible refine Since.set ?_ (by first | assumption | omega | (simp; done) | (simp; omega)) _))); clear hb3)
  all_goals
    have h1 := vbytes_len4 hi2
    have h2 := vbytes_len4 ((n : Int) - 1)
    have h3 := vbytes_len4 (hi2 - lo)
    have hov : (vbytes hi2).length + (vbytes ((n : Int) - 1)).length ≤ 9223372036854775807 := by omega
    have hov2 : (vbytes hi2).length + (vbytes ((n : Int) - 1)).length + (vbytes (hi2 - lo)).length ≤ 9223372036854775807 := by omega
    have hs3 := HS3.out
    have HU1' : Hid ((vbytes hi2 ++ vbytes ((n : Int) - 1) ++ vbytes (hi2 - lo)) = ackUp L 1) := Lib.hid HU1.out.symm
    clear hw0 d0 d1 hs2 lb
    trace "B"; go_wp2_with fail
    rw [bapp, bapp, HU1'.out]
    clear h1 h2 h3 hov hov2
    go_loopw [6, 7] (fun s6 s7 wr => ∃ i : Nat, s7 = .int .i64 i ∧ 1 ≤ i ∧ i ≤ n ∧ s6 = .string ⟨(ackUp L i).toArray⟩ ∧ Since w wr) (fun _ s7 _ => n - (intOf s7).toNat)
    case atStart => exact ⟨1, rfl, Nat.le_refl _, h0, rfl, hs3⟩
    case round =>
      obtain ⟨i, rfl, hi1, hi, rfl, hs⟩ := hrel
      by_cases hlt : i < n
      case neg =>
        obtain rfl : i = n := by omega
        have hf : decide ((i : Int) < (i : Int)) = false := by simp
        go_wp2_with fail
        go_ret
        exact ⟨by rw [HAB.out]; rfl, hs⟩
      have hlt' : (i : Int) < (n : Int) := by omega
      obtain ⟨c0, c1⟩ := HC.out wr hs i (by rw [HN.out]; exact hlt)
      obtain ⟨cp0, cp1⟩ := HC.out wr hs (i - 1) (by rw [HN.out]; omega)
      have HCI := Lib.hid (fun w' hw' => HC.out w' hw' i (by rw [HN.out]; exact hlt))
      obtain ⟨⟨⟨x1, x2⟩, x3, x4⟩, x5, x6⟩ := HO.out i hlt
      obtain ⟨⟨⟨y1, y2⟩, y3, y4⟩, y5, _⟩ := HO.out (i - 1) (by omega)
      have x7 := x6 (by omega)
      have HU := Lib.hid (HUS.out i (by omega))
      have hlen := HLN.out i
      have lb : b < wr.heap.size := Nat.lt_of_lt_of_le hbl hs.le
      have hi2' : (i : Int) - 1 = ((i - 1 : Nat) : Int) := by omega
      have hi3 : ((i - 1 : Nat) : Int) < (n : Int) := by omega
      clear x6
      generalize ackUp L i = U at *
      generalize (rat L i).lo = li at *
      generalize (rat L i).hi = ri at *
      generalize (rat L (i - 1)).lo = lp at *
      generalize (rat L (i - 1)).hi = rp at *
      have hw0 : IntKind.i64.wrap ((i - 1 : Nat) : Int) = ((i - 1 : Nat) : Int) := by simp [IntKind.wrap, IntKind.bits, IntKind.signed]; omega
      have hw1 : IntKind.i64.wrap (lp - ri) = lp - ri := by simp [IntKind.wrap, IntKind.bits, IntKind.signed]; omega
      have hw2 : IntKind.i64.wrap (lp - ri - 2) = lp - ri - 2 := by simp [IntKind.wrap, IntKind.bits, IntKind.signed]; omega
      have g0 : 0 ≤ lp - ri - 2 := by omega
      have g1 : lp - ri - 2 ≤ 1073741823 := by omega
      trace "C"; go_wp2_with fail
      go_region_law (go_simp; go_at_call 74; refine (rbytes_any (lp - ri - 2) g0 g1 _).mono ?_; rintro e w4 ⟨rfl, hb4⟩; have HS4 := Lib.hid (show Since w w4 from (by refine Since.out ?_; repeat (first | with_reducible assumption | with_reducible exact Since.refl _ | with_reducible refine Since.later ?_ (by with_reducible assumption) | with_reducible refine Since.only ?_ (by with_reducible assumption) (by first | assumption | omega | (simp; done) | (simp; omega)) | with_reducible refine Since.alloc ?_ _ | with_reducible refine Since.drewN ?_ _ | with_reducible refine Since.drew ?_ | with_reducible refine Since.set ?_ (by first | assumption | omega | (simp; done) | (simp; omega)) _))); clear hb4)
      all_goals
        have hs4 := HS4.out
        obtain ⟨e0, e1⟩ := HCI.out w4 hs4
        have lb4 : b < w4.heap.size := Nat.lt_of_lt_of_le hbl hs4.le
        clear hw0 hw1 hw2 cp0 cp1 c0 c1
        have hw3 : IntKind.i64.wrap (ri - li) = ri - li := by simp [IntKind.wrap, IntKind.bits, IntKind.signed]; omega
        have g2 : 0 ≤ ri - li := by omega
        have g3 : ri - li ≤ 1073741823 := by omega
        trace "D"; go_wp2_with fail
        go_region_law (go_simp; go_at_call 74; refine (rbytes_any (ri - li) g2 g3 _).mono ?_; rintro e w5 ⟨rfl, hb5⟩; have HS5 := Lib.hid (show Since w w5 from (by refine Since.out ?_; repeat (first | with_reducible assumption | with_reducible exact Since.refl _ | with_reducible refine Since.later ?_ (by with_reducible assumption) | with_reducible refine Since.only ?_ (by with_reducible assumption) (by first | assumption | omega | (simp; done) | (simp; omega)) | with_reducible refine Since.alloc ?_ _ | with_reducible refine Since.drewN ?_ _ | with_reducible refine Since.drew ?_ | with_reducible refine Since.set ?_ (by first | assumption | omega | (simp; done) | (simp; omega)) _))); clear hb5)
        all_goals
          have hs5 := HS5.out
          have h1 := vbytes_len4 (lp - ri - 2)
          have h2 := vbytes_len4 (ri - li)
          have hov : U.length + (vbytes (lp - ri - 2)).length ≤ 9223372036854775807 := by omega
          have hov2 : U.length + (vbytes (lp - ri - 2)).length + (vbytes (ri - li)).length ≤ 9223372036854775807 := by omega
          clear hw3 hs4 e0 e1
          trace "E"; go_wp2_with fail
          rw [bapp, bapp]
          go_roundw
          case rel => exact ⟨i + 1, by go_num, by omega, by omega, by rw [HU.out], hs5⟩
          case measure => simp [intOf]; omega
end Go.Proofs.YthnolkbolmbkdaaDoor
