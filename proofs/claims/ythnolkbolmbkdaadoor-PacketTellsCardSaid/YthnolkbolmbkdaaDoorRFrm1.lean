/- Contracts of wireref2.Counts, Ranges, Frame and Bytes. Condition: the numbers can be read; the frame's parts are right. -/
import Derived.Test.YthnolkbolmbkdaaDoorFrmCk
import Derived.Test.YthnolkbolmbkdaaDoorAckR
import Derived.Deep.DeepCutAuto
import Derived.Test.YthnolkbolmbkdaaDoorFrmBy
import Derived.Test.YthnolkbolmbkdaaDoorAckRefB
namespace Go.Proofs.YthnolkbolmbkdaaDoor
open Go.ChangeShapes Go.WideShapes Go.ChangeAt Go.RowKit
set_option linter.unusedVariables false

theorem rcounts (k : Int) (w : World) : Calls Tryd.prog 79 #[.int .i64 k] w fun e w' => e = .returned (.int .i64 (manyK k)) ∧ w = w' := by
  unfold manyK
  by_cases h1 : k = 1
  · subst h1
    go_enter Tryd.func79, Tryd.ntmps79
    go_wp2_with fail
    go_ret
    exact ⟨rfl, rfl⟩
  by_cases h2 : k = 2
  · subst h2
    go_enter Tryd.func79, Tryd.ntmps79
    go_wp2_with fail
    go_ret
    exact ⟨rfl, rfl⟩
  by_cases h7 : k = 7
  · subst h7
    go_enter Tryd.func79, Tryd.ntmps79
    go_wp2_with fail
    go_ret
    exact ⟨rfl, rfl⟩
  have q1 : (k == 1) = false := by simpa using h1
  have q2 : (k == 2) = false := by simpa using h2
  have q7 : (k == 7) = false := by simpa using h7
  rw [if_neg h1, if_neg h2, if_neg h7]
  clear h1 h2 h7
  go_enter Tryd.func79, Tryd.ntmps79
  go_wp2_with fail
  go_ret
  exact ⟨rfl, rfl⟩

/-- what the loop of the reference's Ranges keeps -/
structure RrgSt (w wr : World) (L : List Int) (j : Nat) (A : Option Addr) (cap : Nat) : Prop where
  ls : Lst wr 69 2 (.slice A j cap) (((pairs L).take j).map rngRow)
  new : ∀ q, q ∈ blocks (.slice A 0 0) → w.heap.size ≤ q
  since : Since w wr
theorem pairs_take {L : List Int} {K j : Nat} (h : L.length = 2 * K) (hj : j < K) : (pairs L).take (j + 1) = (pairs L).take j ++ [⟨ith L (2 * j + 1), ith L (2 * j)⟩] := by
  have hl := pairs_len L (by omega)
  rw [← pairs_at L j (by omega) (by omega), rat_get (by omega), List.take_succ_eq_append_getElem]
theorem pairs_tlen {L : List Int} {K j : Nat} (h : L.length = 2 * K) (hj : j ≤ K) : (((pairs L).take j).map rngRow).length = j := by
  have hl := pairs_len L (by omega)
  simp; omega

set_option maxHeartbeats 1600000 in
set_option maxRecDepth 100000 in
theorem rrngs (A : Option Addr) (cap : Nat) (L : List Int) (K : Nat) (w : World) (h : IntsIn w (.slice A L.length cap) L) (hl : L.length = 2 * K) (h0 : 0 < K) (h12 : K ≤ 12) :
    Calls Tryd.prog 80 #[.slice A L.length cap] w fun e w' => ∃ A' cap', e = .returned (.slice A' K cap') ∧ Lst w' 69 2 (.slice A' K cap') ((pairs L).map rngRow) ∧ Below w.heap.size w w' := by
  obtain ⟨_, A2, cap2, hv, q1, q2, hA⟩ := h
  simp only [Value.slice.injEq, true_and] at hv
  obtain ⟨rfl, rfl⟩ := hv
  obtain ⟨b, off, rfl, hlt, hc⟩ := hA (by intro hh; rw [hh] at hl; simp at hl; omega)
  have HTK := Lib.hid (fun j hj => pairs_take (L := L) (K := K) (j := j) hl hj)
  have HLN := Lib.hid (fun j hj => pairs_tlen (L := L) (K := K) (j := j) hl hj)
  have HPL : Hid ((pairs L).take K = pairs L) := Lib.hid (List.take_of_length_le (by have := pairs_len L (by omega); omega))
  obtain ⟨N, hN⟩ : ∃ N, 2 * K = N := ⟨_, rfl⟩
  rw [hl, hN] at hc ⊢
  have HCC := Lib.hid hc
  clear hl hA hc q1 q2
  go_enter Tryd.func80, Tryd.ntmps80
  trace "A"; go_wp2_with fail
  go_loopw [3, 4] (fun s3 s4 wr => ∃ (j i : Nat) (A : Option Addr) (cp : Nat), s3 = .slice A j cp ∧ s4 = .int .i64 i ∧ 2 * j = i ∧ j ≤ K ∧ RrgSt w wr L j A cp) (fun _ s4 _ => N - (intOf s4).toNat)
  case atStart => exact ⟨0, 0, none, 0, rfl, rfl, rfl, Nat.zero_le _, ⟨Lst.nil _ _ _, by simp [Value.ownBlock], Since.refl _⟩⟩
  case round =>
    obtain ⟨j, i, A, cp, rfl, rfl, hji, hj, hS⟩ := hrel
    have HS := Lib.hid hS
    have hs := hS.since
    clear hS
    by_cases hlt2 : j < K
    case neg =>
      obtain rfl : j = K := by omega
      obtain rfl : i = N := by omega
      have hf : decide ((i : Int) + 1 < (i : Int)) = false := by simp; omega
      trace "B"; go_wp2_with fail
      go_ret
      exact ⟨A, cp, rfl, by have := HS.out.ls; rw [HPL.out] at this; exact this, hs⟩
    obtain ⟨m, hm⟩ : ∃ m, i + 1 = m := ⟨_, rfl⟩
    have hf : (i : Int) + 1 < (N : Int) := by omega
    have hf2 : (i : Int) < (N : Int) := by omega
    have c0 : wr.cell? ⟨b, off + i, none⟩ = some (.int .i64 (ith L (2 * j))) := by have := hs.cell hlt (HCC.out (2 * j) (by omega)); rw [hji] at this; rw [← hji] at *; exact this
    have c1 : wr.cell? ⟨b, off + m, none⟩ = some (.int .i64 (ith L (2 * j + 1))) := by have := hs.cell hlt (HCC.out (2 * j + 1) (by omega)); rw [← hm, ← hji]; exact this
    have lb : b < wr.heap.size := Nat.lt_of_lt_of_le hlt hs.le
    have HT := Lib.hid (HTK.out j hlt2)
    have HML := Lib.hid (HLN.out j hj)
    have hw1 : IntKind.i64.wrap ((i : Int) + 1) = (m : Int) := by simp [IntKind.wrap, IntKind.bits, IntKind.signed]; omega
    have hf3 : (m : Int) < (N : Int) := by omega
    generalize ith L (2 * j) = hi at *
    generalize ith L (2 * j + 1) = lo at *
    clear hm
    trace "C"; go_wp2_with fail
    go_region_law ((refine step_push rfl _ _ 65 rfl 69 2 16 Tryd.elRange2 (.slice A j cp) (((pairs L).take j).map rngRow) rfl ?_ wr.heap.size 1 [.int .i64 lo, .int .i64 hi] rfl rfl (rngRow_one ⟨lo, hi⟩).2 ?_ ?_ ?_; (first | exact (HS.out.ls.alloc _).drew | exact HS.out.ls.alloc _); (exact BlockIs.fresh wr _ _); (rw [HML.out]; omega); intro q9 cq w5 hl5 ho5 hq5 hlt5))
    all_goals
      rw [HML.out] at hl5
      have hs5 : Since w w5 := (by first | exact (hs.alloc _).drew | exact hs.alloc _ : Since w _).out' ho5 (fun k hk => HS.out.new k (by rw [blocks_any _ 0 0 j cp]; exact hk))
      have hqn : w.heap.size ≤ q9 := by
        rcases hq5 with h | h
        · exact HS.out.new q9 (by rw [blocks_any _ 0 0 j cp]; exact h)
        · rw [h]; have := hs.le; first | (simp [World.drew]; omega) | (simp; omega)
      have HST2 : Hid (RrgSt w w5 L (j + 1) (some ⟨q9, 0, none⟩) cq) := Lib.hid
        { ls := by rw [HT.out, List.map_append]; exact hl5
          new := fun k hk => by have : q9 = k := by simpa [Value.ownBlock] using hk
                                omega
          since := hs5 }
      clear hl5 ho5 hq5 hlt5 hqn
      trace "E"; go_wp2_with fail
      go_roundw
      case rel => exact ⟨j + 1, i + 2, some ⟨q9, 0, none⟩, cq, by have := HML.out; rw [List.length_map, List.length_take] at this; first | rfl | rw [this] | (rw [HML.out]), by go_num, by omega, by omega, HST2.out⟩
      case measure => simp [intOf]; omega

theorem manyK_two {k : Int} (h : k ≠ 2) : 0 ≤ manyK k ∧ manyK k ≤ 2 := by
  unfold manyK; rw [if_neg h]; split
  · omega
  · split <;> omega

theorem shapeB_eq (f : Frm) : shapeB f = decide ((f.kind = 3 ∨ f.data.size = 0) ∧ (if f.kind = 2 then 0 < f.nums.length ∧ f.nums.length % 2 = 0 ∧ f.nums.length ≤ 24 else (f.nums.length : Int) = manyK f.kind)) := by
  unfold shapeB
  by_cases h : f.kind = 2
  · simp only [if_pos h]
    rw [Bool.eq_iff_iff]; simp
  · simp only [if_neg h]
    rw [Bool.eq_iff_iff]; simp

set_option maxHeartbeats 3200000 in
set_option maxRecDepth 100000 in
theorem rframe (p : FrmV) (w : World) (hp : FrmIn w p) :
    Calls Tryd.prog 41 #[p.agg] w fun e w' => e = .returned (.int .i64 (frmE p.f)) ∧ Below w.heap.size w w' := by
  have HP := Lib.hid hp
  have hnl := nums_le hp.nums
  have hdz := hp.data
  have HB : Hid (∀ z ∈ p.f.nums, -9223372036854775808 ≤ z ∧ z ≤ 9223372036854775807) := Lib.hid hp.nums.1
  unfold maxLen at hdz
  obtain ⟨⟨kind, nums, data⟩, A, cap⟩ := p
  simp only at hnl hdz HB ⊢
  have HI : Hid (IntsIn w (.slice A nums.length cap) nums) := Lib.hid HP.out.nums
  have SH : Hid (shapeB ⟨kind, nums, data⟩ = decide ((kind = 3 ∨ data.size = 0) ∧ (if kind = 2 then 0 < nums.length ∧ nums.length % 2 = 0 ∧ nums.length ≤ 24 else (nums.length : Int) = manyK kind))) := Lib.hid (shapeB_eq _)
  unfold FrmV.agg
  simp only
  clear hp HP
  obtain ⟨n, hn⟩ : ∃ n, nums.length = n := ⟨_, rfl⟩
  rw [hn] at SH HI hnl ⊢
  have HN := Lib.hid hn
  clear hn
  have HQ : Hid (BlockIs (w.alloc (.cells #[.int .i64 kind, .slice A n cap, .string data] 82)) w.heap.size 82 #[.int .i64 kind, .slice A n cap, .string data]) := Lib.hid (BlockIs.fresh _ _ _)
  by_cases k1 : kind < 1
  · have E := Lib.hid (frmE_kind (f := ⟨kind, nums, data⟩) (Or.inl k1))
    go_enter Tryd.func41, Tryd.ntmps41
    go_wp2_with fail
    go_ret
    exact ⟨by rw [E.out]; rfl, (by refine Since.out ?_; repeat (first | with_reducible assumption | with_reducible exact Since.refl _ | with_reducible refine Since.later ?_ (by with_reducible assumption) | with_reducible refine Since.only ?_ (by with_reducible assumption) (by first | assumption | omega | (simp; done) | (simp; omega)) | with_reducible refine Since.alloc ?_ _ | with_reducible refine Since.drewN ?_ _ | with_reducible refine Since.drew ?_ | with_reducible refine Since.set ?_ (by first | assumption | omega | (simp; done) | (simp; omega)) _))⟩
  have k1' : decide (kind < 1) = false := by simpa using k1
  by_cases k8 : 8 < kind
  · have E := Lib.hid (frmE_kind (f := ⟨kind, nums, data⟩) (Or.inr k8))
    clear k1
    go_enter Tryd.func41, Tryd.ntmps41
    go_wp2_with fail
    go_ret
    exact ⟨by rw [E.out]; rfl, (by refine Since.out ?_; repeat (first | with_reducible assumption | with_reducible exact Since.refl _ | with_reducible refine Since.later ?_ (by with_reducible assumption) | with_reducible refine Since.only ?_ (by with_reducible assumption) (by first | assumption | omega | (simp; done) | (simp; omega)) | with_reducible refine Since.alloc ?_ _ | with_reducible refine Since.drewN ?_ _ | with_reducible refine Since.drew ?_ | with_reducible refine Since.set ?_ (by first | assumption | omega | (simp; done) | (simp; omega)) _))⟩
  have k8' : decide (8 < kind) = false := by simpa using k8
  have HK : Hid (¬ (kind < 1 ∨ 8 < kind)) := Lib.hid (by omega)
  clear k1 k8
  go_enter Tryd.func41, Tryd.ntmps41
  go_wp2_with fail
  refine (rcounts kind _).mono ?_
  rintro e w1 ⟨rfl, rfl⟩
  have HM : Hid ((kind = 2 → manyK kind = -1) ∧ (kind ≠ 2 → 0 ≤ manyK kind ∧ manyK kind ≤ 2)) := Lib.hid ⟨fun h => by rw [h]; rfl, manyK_two⟩
  generalize manyK kind = m at *
  trace "A"; repeat ((fail_if_success (with_reducible refine stop_at 5 ?_)); first | fail | go_values | go_skip | go_guarded | go_step | go_upon | go_back | go_simp)
  go_cut [] (fun wx => Hid (shapeB ⟨kind, nums, data⟩ = true) ∧ Since w wx ∧ BlockIs wx w.heap.size 82 #[.int .i64 kind, .slice A n cap, .string data])
  case first =>
    as_aux_lemma =>
      by_cases h2 : kind = 2
      · have hm0 : m < 0 := by rw [HM.out.1 h2]; decide
        have hm1 : decide (0 ≤ m) = false := by simp; omega
        have h3 : (kind != 3) = true := by rw [h2]; rfl
        by_cases q1 : n = 0
        · subst q1
          have E := Lib.hid (frmE_shape (f := ⟨kind, nums, data⟩) HK.out (by rw [SH.out]; simp [h2]))
          clear h2
          go_wp2_with fail
          go_ret
          exact ⟨by rw [E.out]; rfl, (by refine Since.out ?_; repeat (first | with_reducible assumption | with_reducible exact Since.refl _ | with_reducible refine Since.later ?_ (by with_reducible assumption) | with_reducible refine Since.only ?_ (by with_reducible assumption) (by first | assumption | omega | (simp; done) | (simp; omega)) | with_reducible refine Since.alloc ?_ _ | with_reducible refine Since.drewN ?_ _ | with_reducible refine Since.drew ?_ | with_reducible refine Since.set ?_ (by first | assumption | omega | (simp; done) | (simp; omega)) _))⟩
        have q1' : ((n : Int) == 0) = false := by rw [beq_eq_false_iff_ne]; omega
        by_cases q2 : n % 2 = 1
        · have q2' : (((n : Int) % 2) == 1) = true := by simp; omega
          have E := Lib.hid (frmE_shape (f := ⟨kind, nums, data⟩) HK.out (by rw [SH.out]; simp [h2]; omega))
          clear h2 q1 q2
          go_wp2_with fail
          go_ret
          exact ⟨by rw [E.out]; rfl, (by refine Since.out ?_; repeat (first | with_reducible assumption | with_reducible exact Since.refl _ | with_reducible refine Since.later ?_ (by with_reducible assumption) | with_reducible refine Since.only ?_ (by with_reducible assumption) (by first | assumption | omega | (simp; done) | (simp; omega)) | with_reducible refine Since.alloc ?_ _ | with_reducible refine Since.drewN ?_ _ | with_reducible refine Since.drew ?_ | with_reducible refine Since.set ?_ (by first | assumption | omega | (simp; done) | (simp; omega)) _))⟩
        have q2' : (((n : Int) % 2) == 1) = false := by simp; omega
        by_cases q3 : 24 < n
        · have q3' : (24 : Int) < (n : Int) := by omega
          have E := Lib.hid (frmE_shape (f := ⟨kind, nums, data⟩) HK.out (by rw [SH.out]; simp [h2]; omega))
          clear h2 q1 q2 q3
          go_wp2_with fail
          go_ret
          exact ⟨by rw [E.out]; rfl, (by refine Since.out ?_; repeat (first | with_reducible assumption | with_reducible exact Since.refl _ | with_reducible refine Since.later ?_ (by with_reducible assumption) | with_reducible refine Since.only ?_ (by with_reducible assumption) (by first | assumption | omega | (simp; done) | (simp; omega)) | with_reducible refine Since.alloc ?_ _ | with_reducible refine Since.drewN ?_ _ | with_reducible refine Since.drew ?_ | with_reducible refine Since.set ?_ (by first | assumption | omega | (simp; done) | (simp; omega)) _))⟩
        have q3' : decide ((24 : Int) < (n : Int)) = false := by simp; omega
        by_cases q4 : data.size = 0
        · obtain ⟨e1, e2⟩ := str_empty q4
          have T : Hid (shapeB ⟨kind, nums, data⟩ = true) := Lib.hid (by rw [SH.out]; simp [h2, q4]; omega)
          clear h2 q1 q2 q3 q4
          go_wp2_with fail
          go_meet
          case rel => exact ⟨T.out, (by refine Since.out ?_; repeat (first | with_reducible assumption | with_reducible exact Since.refl _ | with_reducible refine Since.later ?_ (by with_reducible assumption) | with_reducible refine Since.only ?_ (by with_reducible assumption) (by first | assumption | omega | (simp; done) | (simp; omega)) | with_reducible refine Since.alloc ?_ _ | with_reducible refine Since.drewN ?_ _ | with_reducible refine Since.drew ?_ | with_reducible refine Since.set ?_ (by first | assumption | omega | (simp; done) | (simp; omega)) _)), HQ.out⟩
        · obtain ⟨e1, e2⟩ := str_full q4
          have E := Lib.hid (frmE_shape (f := ⟨kind, nums, data⟩) HK.out (by rw [SH.out]; simp [h2, q4]))
          clear h2 q1 q2 q3 q4
          go_wp2_with fail
          go_ret
          exact ⟨by rw [E.out]; rfl, (by refine Since.out ?_; repeat (first | with_reducible assumption | with_reducible exact Since.refl _ | with_reducible refine Since.later ?_ (by with_reducible assumption) | with_reducible refine Since.only ?_ (by with_reducible assumption) (by first | assumption | omega | (simp; done) | (simp; omega)) | with_reducible refine Since.alloc ?_ _ | with_reducible refine Since.drewN ?_ _ | with_reducible refine Since.drew ?_ | with_reducible refine Since.set ?_ (by first | assumption | omega | (simp; done) | (simp; omega)) _))⟩
      · obtain ⟨m0, m2⟩ := HM.out.2 h2
        have SH2 : Hid (shapeB ⟨kind, nums, data⟩ = decide ((kind = 3 ∨ data.size = 0) ∧ (n : Int) = m)) := Lib.hid (by rw [SH.out]; simp only [if_neg h2])
        clear SH h2
        have SH := SH2
        clear SH2
        have m0' : decide (m < 0) = false := by simpa using m0
        by_cases q1 : (n : Int) = m
        case neg =>
          have q1' : ((n : Int) != m) = true := by simpa using q1
          have E := Lib.hid (frmE_shape (f := ⟨kind, nums, data⟩) HK.out (by rw [SH.out]; simp [q1]))
          clear q1
          go_wp2_with fail
          go_ret
          exact ⟨by rw [E.out]; rfl, (by refine Since.out ?_; repeat (first | with_reducible assumption | with_reducible exact Since.refl _ | with_reducible refine Since.later ?_ (by with_reducible assumption) | with_reducible refine Since.only ?_ (by with_reducible assumption) (by first | assumption | omega | (simp; done) | (simp; omega)) | with_reducible refine Since.alloc ?_ _ | with_reducible refine Since.drewN ?_ _ | with_reducible refine Since.drew ?_ | with_reducible refine Since.set ?_ (by first | assumption | omega | (simp; done) | (simp; omega)) _))⟩
        have q1' : ((n : Int) != m) = false := by simpa using q1
        by_cases h3 : kind = 3
        · have h3' : (kind != 3) = false := by simpa using h3
          have T : Hid (shapeB ⟨kind, nums, data⟩ = true) := Lib.hid (by rw [SH.out]; simp [h3, q1])
          clear q1 h3
          go_wp2_with fail
          go_meet
          case rel => exact ⟨T.out, (by refine Since.out ?_; repeat (first | with_reducible assumption | with_reducible exact Since.refl _ | with_reducible refine Since.later ?_ (by with_reducible assumption) | with_reducible refine Since.only ?_ (by with_reducible assumption) (by first | assumption | omega | (simp; done) | (simp; omega)) | with_reducible refine Since.alloc ?_ _ | with_reducible refine Since.drewN ?_ _ | with_reducible refine Since.drew ?_ | with_reducible refine Since.set ?_ (by first | assumption | omega | (simp; done) | (simp; omega)) _)), HQ.out⟩
        have h3' : (kind != 3) = true := by simpa using h3
        by_cases q4 : data.size = 0
        · obtain ⟨e1, e2⟩ := str_empty q4
          have T : Hid (shapeB ⟨kind, nums, data⟩ = true) := Lib.hid (by rw [SH.out]; simp [q4, q1])
          clear q1 h3 q4
          go_wp2_with fail
          go_meet
          case rel => exact ⟨T.out, (by refine Since.out ?_; repeat (first | with_reducible assumption | with_reducible exact Since.refl _ | with_reducible refine Since.later ?_ (by with_reducible assumption) | with_reducible refine Since.only ?_ (by with_reducible assumption) (by first | assumption | omega | (simp; done) | (simp; omega)) | with_reducible refine Since.alloc ?_ _ | with_reducible refine Since.drewN ?_ _ | with_reducible refine Since.drew ?_ | with_reducible refine Since.set ?_ (by first | assumption | omega | (simp; done) | (simp; omega)) _)), HQ.out⟩
        · obtain ⟨e1, e2⟩ := str_full q4
          have E := Lib.hid (frmE_shape (f := ⟨kind, nums, data⟩) HK.out (by rw [SH.out]; simp [h3, q4]))
          clear q1 h3 q4
          go_wp2_with fail
          go_ret
          exact ⟨by rw [E.out]; rfl, (by refine Since.out ?_; repeat (first | with_reducible assumption | with_reducible exact Since.refl _ | with_reducible refine Since.later ?_ (by with_reducible assumption) | with_reducible refine Since.only ?_ (by with_reducible assumption) (by first | assumption | omega | (simp; done) | (simp; omega)) | with_reducible refine Since.alloc ?_ _ | with_reducible refine Since.drewN ?_ _ | with_reducible refine Since.drew ?_ | with_reducible refine Since.set ?_ (by first | assumption | omega | (simp; done) | (simp; omega)) _))⟩
  case rest =>
    as_aux_lemma =>
      obtain ⟨wo, rfl⟩ : ∃ wo : World, wo = wc := ⟨_, rfl⟩
      obtain ⟨T, hso, hbo⟩ := hcut
      have HBO := Lib.hid hbo
      clear hbo HQ
      have hnn : (0 : Int) ≤ (n : Int) := by omega
      trace "C"; go_wp2_with fail
      go_loopw [5] (fun s5 wr => ∃ i : Nat, s5 = .int .i64 i ∧ i ≤ n ∧ Hid (∀ j, j < i → MayBe (ith nums j)) ∧ Hid (BlockIs wr w.heap.size 82 #[.int .i64 kind, .slice A n cap, .string data]) ∧ Since w wr) (fun s5 _ => n - (intOf s5).toNat)
      case atStart => exact ⟨0, rfl, Nat.zero_le _, Lib.hid (fun j hj => by omega), HBO, hso⟩
      case round =>
        obtain ⟨i, rfl, hi, HM, HBR, hs⟩ := hrel
        have lb := HBR.out.lt
        have fb := HBR.out.free
        have b0 : wr.cell? ⟨w.heap.size, 0, none⟩ = some (.int .i64 kind) := HBR.out.cell 0
        have b1 : wr.cell? ⟨w.heap.size, 1, none⟩ = some (.slice A n cap) := HBR.out.cell 1
        have b2 : wr.cell? ⟨w.heap.size, 2, none⟩ = some (.string data) := HBR.out.cell 2
        by_cases hlt : i < n
        case neg =>
          obtain rfl : i = n := by omega
          have hf : decide ((i : Int) < (i : Int)) = false := by simp
          have MS : Hid (maysB nums = true) := Lib.hid (List.all_eq_true.2 fun z hz => by
            obtain ⟨j, hj, rfl⟩ := List.getElem_of_mem hz
            have := HM.out j (by rw [← HN.out]; exact hj)
            rw [show nums[j] = ith nums j by unfold ith; simp [hj, List.getD]]
            exact mayB_iff.2 this)
          by_cases h20 : 20 < data.size
          · have E := Lib.hid (frmE_full (f := ⟨kind, nums, data⟩) HK.out T.out MS.out h20)
            have h20' : (20 : Int) < (data.size : Int) := by omega
            trace "E"; go_wp2_with fail
            go_ret
            exact ⟨by rw [E.out]; rfl, hs⟩
          have HD := Lib.hid h20
          have h20' : decide ((20 : Int) < (data.size : Int)) = false := by simp; omega
          clear h20
          by_cases hk : kind = 2
          · obtain ⟨_, n1, n2, n3⟩ := shapeB_two (f := ⟨kind, nums, data⟩) T.out hk
            simp only at n1 n2 n3
            have hl2 := pairs_len nums n2
            obtain ⟨K, hK⟩ : ∃ K, (pairs nums).length = K := ⟨_, rfl⟩
            have hk2 : (kind == 2) = true := by simpa using hk
            have HKK := Lib.hid hK
            have HKD := Lib.hid hk
            have FR := Lib.hid (fun W hW => rrngs A cap nums K W hW (by omega) (by omega) (by omega))
            rw [HN.out] at FR
            clear hK hk n1 n2 n3 hl2
            trace "F"; go_wp2_with fail
            refine (FR.out _ (HI.out.keep hs)).mono ?_
            rintro e w3 ⟨A3, c3, rfl, hl3, hb3⟩
            have HL3 := Lib.hid hl3
            have hs3 := hs.later hb3
            clear hl3 hb3
            trace "F1"; go_wp2_with fail
            refine (rcheckR A3 K c3 (pairs nums) _ HKK.out (pairs_ok MS.out) (Rd.of_lst HL3.out)).mono ?_
            rintro e w4 ⟨rfl, hb4⟩
            have hs4 := hs3.later hb4
            by_cases hE : rngE (pairs nums) = 0
            · have E := Lib.hid (frmE_ok (f := ⟨kind, nums, data⟩) HK.out T.out MS.out HD.out (fun _ => hE))
              rw [hE]
              clear hE
              trace "F2"; go_wp2_with fail
              go_ret
              exact ⟨by rw [E.out]; rfl, hs4⟩
            · have E := Lib.hid (frmE_ack (f := ⟨kind, nums, data⟩) HKD.out T.out MS.out HD.out hE)
              have hE' : (rngE (pairs nums) != 0) = true := by simpa using hE
              clear hE
              trace "F3"; go_wp2_with fail
              go_ret
              exact ⟨by rw [E.out]; rfl, hs4⟩
          · have E := Lib.hid (frmE_ok (f := ⟨kind, nums, data⟩) HK.out T.out MS.out HD.out (fun h => absurd h hk))
            have hk2 : (kind == 2) = false := by simpa using hk
            clear hk
            trace "G"; go_wp2_with fail
            go_ret
            exact ⟨by rw [E.out]; rfl, hs⟩
        have hlt' : (i : Int) < (n : Int) := by omega
        obtain ⟨_, A2, cap2, hv, _, _, hA⟩ := HI.out
        simp only [Value.slice.injEq] at hv
        obtain ⟨rfl, hnv, rfl⟩ := hv
        clear hnv
        obtain ⟨ba, off, rfl, hla, hca⟩ := hA (by intro hh; have := HN.out; rw [hh] at this; simp at this; omega)
        have ci : wr.cell? ⟨ba, off + i, none⟩ = some (.int .i64 (ith nums i)) := hs.cell hla (hca i (by rw [HN.out]; exact hlt))
        have la : ba < wr.heap.size := Nat.lt_of_lt_of_le hla hs.le
        have HME : Hid (MayBe (ith nums i) → mayB (ith nums i) = true) := Lib.hid mayB_iff.2
        have HMF : Hid (¬ MayBe (ith nums i) → mayB (ith nums i) = false ∧ maysB nums = false) := Lib.hid (fun h => ⟨mayB_not h, by
          cases hc : maysB nums with
          | false => rfl
          | true =>
            have := List.all_eq_true.1 hc (ith nums i) (by unfold ith; rw [List.getD, List.getElem?_eq_getElem (by rw [HN.out]; exact hlt)]; exact List.getElem_mem _)
            exact absurd (mayB_iff.1 this) h⟩)
        have HXI : Hid (∀ z, MayBe z → z = ith nums i → ∀ j, j < i + 1 → MayBe (ith nums j)) := Lib.hid (fun z hz he j hj => by
          rcases Nat.lt_or_ge j i with h | h
          · exact HM.out j h
          · obtain rfl : j = i := by omega
            rw [← he]; exact hz)
        clear hca hA
        obtain ⟨x, hx⟩ : ∃ x, ith nums i = x := ⟨_, rfl⟩
        rw [hx] at ci HME HMF
        have HX := Lib.hid hx
        clear hx
        trace "H"; go_wp2_with fail
        refine (rmay_any x _).mono ?_
        rintro e w1 ⟨rfl, rfl⟩
        by_cases hm : MayBe x
        · rw [HME.out hm]
          have HXJ := Lib.hid (HXI.out x hm HX.out.symm)
          clear hm
          trace "I"; go_wp2_with fail
          go_roundw
          case rel => exact ⟨i + 1, by go_num, by omega, HXJ, HBR, hs⟩
          case measure => simp [intOf]; omega
        · obtain ⟨m1, m2⟩ := HMF.out hm
          rw [m1]
          have E := Lib.hid (frmE_may (f := ⟨kind, nums, data⟩) HK.out T.out m2)
          clear m1 m2 hm
          trace "J"; go_wp2_with fail
          go_ret
          exact ⟨by rw [E.out]; rfl, hs⟩
attribute [local go_sem] isU8_some cb_some

set_option maxHeartbeats 3200000 in
set_option maxRecDepth 100000 in
theorem rfbytes (p : FrmV) (w : World) (hp : FrmIn w p) (hE : frmE p.f = 0) :
    Calls Tryd.prog 43 #[p.agg] w fun e w' => e = .returned (.string ⟨(frmB p.f).toArray⟩) ∧ Below w.heap.size w w' := by
  obtain ⟨⟨k1, k8⟩, hs, hm, hd, ha⟩ := frmE_out hE
  obtain ⟨⟨kind, nums, data⟩, A, cap⟩ := p
  simp only at k1 k8 hd hs hm ha
  have HI : Hid (IntsIn w (.slice A nums.length cap) nums) := Lib.hid hp.nums
  have HS := Lib.hid hs
  have HM := Lib.hid hm
  have HA := Lib.hid ha
  have HU1 : Hid (kind = 3 → frmB ⟨kind, nums, data⟩ = byteOf kind :: (allL nums ++ (vbytes data.size ++ data.data.toList))) := Lib.hid (frmB_three (f := ⟨kind, nums, data⟩))
  have HU2 : Hid (kind = 2 → frmB ⟨kind, nums, data⟩ = byteOf kind :: ackB (pairs nums)) := Lib.hid (frmB_two (f := ⟨kind, nums, data⟩))
  have HU3 : Hid (kind ≠ 2 → kind ≠ 3 → frmB ⟨kind, nums, data⟩ = byteOf kind :: allL nums) := Lib.hid (frmB_other (f := ⟨kind, nums, data⟩))
  have HL : Hid (kind ≠ 2 → nums.length ≤ 2) := Lib.hid (shapeB_len (f := ⟨kind, nums, data⟩) hs)
  unfold FrmV.agg
  simp only
  obtain ⟨n, hn⟩ : ∃ n, nums.length = n := ⟨_, rfl⟩
  rw [hn] at HI HL ⊢
  have HN := Lib.hid hn
  have hwrap : IntKind.u8.wrap kind = kind := by simp [IntKind.wrap, IntKind.bits, IntKind.signed]; omega
  have hby : UInt8.ofNat kind.toNat = byteOf kind := rfl
  have HQ : Hid (BlockIs (w.alloc (.cells #[.int .i64 kind, .slice A n cap, .string data] 82)) w.heap.size 82 #[.int .i64 kind, .slice A n cap, .string data]) := Lib.hid (BlockIs.fresh _ _ _)
  clear hn hp hs hm ha hE
  have c1 := conv1
  have c2 := conv2
  by_cases h2 : kind = 2
  · obtain ⟨_, n1, n2, n3⟩ := shapeB_two (f := ⟨kind, nums, data⟩) HS.out h2
    simp only at n1 n2 n3
    have hl2 := pairs_len nums n2
    have nn := HN.out
    obtain ⟨K, hK⟩ : ∃ K, (pairs nums).length = K := ⟨_, rfl⟩
    have hk2 : (kind == 2) = true := by simpa using h2
    have HKK := Lib.hid hK
    have HRE := Lib.hid (HA.out h2)
    have hK0 : 0 < K := by omega
    have hK12 : K ≤ 12 := by omega
    have FR := Lib.hid (fun W hW => rrngs A cap nums K W hW (by omega) (by omega) (by omega))
    rw [HN.out] at FR
    have HU := Lib.hid (HU2.out h2)
    have hov : 1 + (ackB (pairs nums)).length ≤ 9223372036854775807 := by
      have := ackUp_len (pairs nums) (rngE_len HRE.out) (pairs nums).length
      unfold ackB; omega
    clear hK h2 n1 n2 n3 hl2 HU1 HU2 HU3 nn
    go_enter Tryd.func43, Tryd.ntmps43
    trace "A"; go_wp2_with fail
    refine (FR.out _ (HI.out.keep (by refine Since.out ?_; repeat (first | with_reducible assumption | with_reducible exact Since.refl _ | with_reducible refine Since.later ?_ (by with_reducible assumption) | with_reducible refine Since.only ?_ (by with_reducible assumption) (by first | assumption | omega | (simp; done) | (simp; omega)) | with_reducible refine Since.alloc ?_ _ | with_reducible refine Since.drewN ?_ _ | with_reducible refine Since.drew ?_ | with_reducible refine Since.set ?_ (by first | assumption | omega | (simp; done) | (simp; omega)) _)))).mono ?_
    rintro e w3 ⟨A3, c3, rfl, hl3, hb3⟩
    have HL3 := Lib.hid hl3
    have hs3 : Since w w3 := (by refine Since.out ?_; repeat (first | with_reducible assumption | with_reducible exact Since.refl _ | with_reducible refine Since.later ?_ (by with_reducible assumption) | with_reducible refine Since.only ?_ (by with_reducible assumption) (by first | assumption | omega | (simp; done) | (simp; omega)) | with_reducible refine Since.alloc ?_ _ | with_reducible refine Since.drewN ?_ _ | with_reducible refine Since.drew ?_ | with_reducible refine Since.set ?_ (by first | assumption | omega | (simp; done) | (simp; omega)) _))
    clear hl3 hb3
    trace "B"; go_wp2_with fail
    refine (rack A3 K c3 (pairs nums) _ HKK.out hK0 (Rd.of_lst HL3.out) HRE.out).mono ?_
    rintro e w4 ⟨rfl, hb4⟩
    have hs4 := hs3.later hb4
    generalize ackB (pairs nums) = Y at *
    clear hb4 hs3
    trace "C"; go_wp2_with fail
    go_ret
    refine ⟨?_, hs4⟩
    rw [HU.out]
    exact congrArg (fun x => Ending.returned (Value.string x)) (bapp [byteOf kind] Y)
  have hk2 : (kind == 2) = false := by simpa using h2
  have hn2 := HL.out h2
  obtain ⟨_, A2, cap2, hv, _, _, hA⟩ := HI.out
  simp only [Value.slice.injEq] at hv
  obtain ⟨rfl, hnv, rfl⟩ := hv
  clear hnv
  have HA2 := Lib.hid hA
  clear hA
  have H3 : Hid (kind ≠ 3 → frmB ⟨kind, nums, data⟩ = byteOf kind :: allL nums) := Lib.hid (HU3.out h2)
  clear HU3 HU2 HA h2
  go_enter Tryd.func43, Tryd.ntmps43
  trace "D"; go_wp2_with fail
  go_loopw [4, 6] (fun s4 s6 wr => ∃ i : Nat, s6 = .int .i64 i ∧ i ≤ n ∧ s4 = .string ⟨(byteOf kind :: allL (nums.take i)).toArray⟩ ∧ Hid (BlockIs wr w.heap.size 82 #[.int .i64 kind, .slice A n cap, .string data]) ∧ Since w wr) (fun _ s6 _ => n - (intOf s6).toNat)
  case atStart => exact ⟨0, rfl, Nat.zero_le _, by first | rfl | simp [allL], Lib.hid (HQ.out.alloc _), (by refine Since.out ?_; repeat (first | with_reducible assumption | with_reducible exact Since.refl _ | with_reducible refine Since.later ?_ (by with_reducible assumption) | with_reducible refine Since.only ?_ (by with_reducible assumption) (by first | assumption | omega | (simp; done) | (simp; omega)) | with_reducible refine Since.alloc ?_ _ | with_reducible refine Since.drewN ?_ _ | with_reducible refine Since.drew ?_ | with_reducible refine Since.set ?_ (by first | assumption | omega | (simp; done) | (simp; omega)) _))⟩
  case round =>
    obtain ⟨i, rfl, hi, rfl, HBR, hs⟩ := hrel
    have lb := HBR.out.lt
    have fb := HBR.out.free
    have b0 : wr.cell? ⟨w.heap.size, 0, none⟩ = some (.int .i64 kind) := HBR.out.cell 0
    have b1 : wr.cell? ⟨w.heap.size, 1, none⟩ = some (.slice A n cap) := HBR.out.cell 1
    have b2 : wr.cell? ⟨w.heap.size, 2, none⟩ = some (.string data) := HBR.out.cell 2
    have hul : (allL (nums.take i)).length ≤ 8 := by
      have := allL_short (nums.take i)
      have h3 : (nums.take i).length ≤ i := List.length_take_le _ _
      omega
    by_cases hlt : i < n
    case neg =>
      obtain rfl : i = n := by omega
      have hf : decide ((i : Int) < (i : Int)) = false := by simp
      have hz : Hid (allL (nums.take i) = allL nums) := Lib.hid (by rw [List.take_of_length_le (by rw [HN.out]; exact Nat.le_refl _)])
      rw [hz.out] at hul ⊢
      by_cases h3 : kind = 3
      · have h3' : (kind == 3) = true := by simpa using h3
        have HU := Lib.hid (HU1.out h3)
        have h5 := vbytes_len4 (data.size : Int)
        have hg0 : (0 : Int) ≤ (data.size : Int) := by omega
        have hg1 : (data.size : Int) ≤ 1073741823 := by omega
        clear h3
        obtain ⟨U, hU⟩ : ∃ U, byteOf kind :: allL nums = U := ⟨_, rfl⟩
        have hUl : U.length ≤ 9 := by rw [← hU]; simp; omega
        have hov : U.length + (vbytes (data.size : Int)).length ≤ 9223372036854775807 := by omega
        have hov2 : U.length + (vbytes (data.size : Int)).length + data.size ≤ 9223372036854775807 := by omega
        have HUU := Lib.hid hU
        rw [hU]
        clear hU
        trace "E"; go_wp2_with fail
        refine (rbytes_any (data.size : Int) hg0 hg1 _).mono ?_
        rintro e w5 ⟨rfl, hb5⟩
        have hs5 := hs.later hb5
        have c5 : w5.cell? ⟨w.heap.size, 2, none⟩ = some (.string data) := (HBR.out.later hb5).cell 2
        have l5 := (HBR.out.later hb5).lt
        clear hb5 b0 b1 b2 fb
        trace "F"; go_wp2_with fail
        go_ret
        refine ⟨?_, hs5⟩
        rw [HU.out]
        refine congrArg (fun x => Ending.returned (Value.string x)) ?_
        rw [show byteOf kind :: (allL nums ++ (vbytes (data.size : Int) ++ data.data.toList)) = U ++ vbytes (data.size : Int) ++ data.data.toList by rw [← HUU.out]; simp]
        apply ByteArray.ext; simp
      · have h3' : (kind == 3) = false := by simpa using h3
        have HU := Lib.hid (H3.out h3)
        clear h3
        trace "G"; go_wp2_with fail
        go_ret
        exact ⟨by rw [HU.out]; rfl, hs⟩
    have hlt' : (i : Int) < (n : Int) := by omega
    obtain ⟨ba, off, rfl, hla, hca⟩ := HA2.out (by intro hh; have := HN.out; rw [hh] at this; simp at this; omega)
    have ci : wr.cell? ⟨ba, off + i, none⟩ = some (.int .i64 (ith nums i)) := hs.cell hla (hca i (by rw [HN.out]; exact hlt))
    have la : ba < wr.heap.size := Nat.lt_of_lt_of_le hla hs.le
    have hmi : MayBe (ith nums i) := HM.out _ (by unfold ith; rw [List.getD, List.getElem?_eq_getElem (by rw [HN.out]; exact hlt)]; exact List.getElem_mem _)
    have HT : Hid (byteOf kind :: allL (nums.take (i + 1)) = (byteOf kind :: allL (nums.take i)) ++ vbytes (ith nums i)) := Lib.hid (by
      rw [List.take_succ_eq_append_getElem (by rw [HN.out]; exact hlt), allL_snoc, show nums[i]'(by rw [HN.out]; exact hlt) = ith nums i by unfold ith; simp [List.getD, List.getElem?_eq_getElem (show i < nums.length by rw [HN.out]; exact hlt)]]
      rfl)
    obtain ⟨m0, m1⟩ := hmi
    have h4 := vbytes_len4 (ith nums i)
    obtain ⟨U, hU⟩ : ∃ U, byteOf kind :: allL (nums.take i) = U := ⟨_, rfl⟩
    have hUl : U.length ≤ 9 := by rw [← hU]; simp; omega
    rw [hU] at HT ⊢
    clear hU hca
    generalize ith nums i = x at *
    have hov : U.length + (vbytes x).length ≤ 9223372036854775807 := by omega
    trace "H"; go_wp2_with fail
    refine (rbytes_any x m0 m1 _).mono ?_
    rintro e w5 ⟨rfl, hb5⟩
    have hs5 := hs.later hb5
    have HB5 := Lib.hid (HBR.out.later hb5)
    clear hb5 b0 b1 b2 fb
    trace "I"; go_wp2_with fail
    go_roundw
    case rel => exact ⟨i + 1, by go_num, by omega, by rw [HT.out, ← bapp], HB5, hs5⟩
    case measure => simp [intOf]; omega
end Go.Proofs.YthnolkbolmbkdaaDoor
