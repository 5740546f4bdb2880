/- Contract of wireref1.ReadAck. Condition: the string's length is an int. -/
import Derived.Test.YthnolkbolmbkdaaDoorAckR
import Derived.Test.YthnolkbolmbkdaaDoorVRGet
namespace Go.Proofs.YthnolkbolmbkdaaDoor
open Go.ChangeShapes Go.WideShapes Go.ChangeAt Go.RowKit
set_option linter.unusedVariables false

theorem rget0 (s : ByteArray) (hz : s.size ≤ 9223372036854775807) (w : World) :
    Calls Tryd.prog 75 #[.string s] w fun e w' => e = .returned (.tuple #[.int .i64 (getV s.data.toList), .int .i64 (kN s.data.toList : Nat), .bool (gok s.data.toList)]) ∧ w = w' := by
  refine (rget_any s hz w).mono fun e w' ⟨h1, h2⟩ => ⟨?_, h2⟩
  rw [h1]; unfold getRR; rw [kN_eq]; rfl
theorem rgetD (s : ByteArray) (k : Nat) (hz : s.size ≤ 9223372036854775807) (w : World) :
    Calls Tryd.prog 75 #[.string (s.extract k s.size)] w fun e w' => e = .returned (.tuple #[.int .i64 (getV (s.data.toList.drop k)), .int .i64 (kN (s.data.toList.drop k) : Nat), .bool (gok (s.data.toList.drop k))]) ∧ w = w' := by
  have := rget0 (s.extract k s.size) (Nat.le_trans (str_drop_size s k) hz) w
  rw [str_drop] at this
  exact this
/-- what the loop of the reference's ReadAck keeps -/
structure RrSt (w wr : World) (b : List UInt8) (i k : Nat) (h : Int) (A : Option Addr) (cap : Nat) (M : List Rng) : Prop where
  ls : Lst wr 69 2 (.slice A i cap) (M.map rngRow)
  new : ∀ q, q ∈ blocks (.slice A 0 0) → w.heap.size ≤ q
  since : Since w wr
  len : M.length = i
  le : k ≤ b.length
  up : rdUp b (getV b) (hdK b) i = some (M, k)
  hi0 : i = 0 → h = getV b
  hib : -1073741826 ≤ h ∧ h ≤ 1073741823
  each : ∀ r ∈ M, 0 ≤ r.lo ∧ r.lo ≤ 1073741823

set_option maxHeartbeats 3200000 in
set_option maxRecDepth 100000 in
theorem raread (s : ByteArray) (w : World) (hz : s.size ≤ 9223372036854775807) :
    Calls Tryd.prog 37 #[.string s] w fun e w' => ∃ (A : Option Addr) (cap k : Nat) (ok : Bool) (M : List Rng), e = .returned (.tuple #[.slice A M.length cap, .int .i64 k, .bool ok]) ∧ Lst w' 69 2 (.slice A M.length cap) (M.map rngRow) ∧ M.length ≤ 12 ∧ Below w.heap.size w w' ∧ (∀ q, q ∈ blocks (.slice A 0 0) → w.heap.size ≤ q) ∧ readA s.data.toList = if ok = true then some (M, k) else none := by
  have G0 := Lib.hid (fun w => rget0 s hz w)
  have GD := Lib.hid (fun k w => rgetD s k hz w)
  have hsz : s.data.toList.length = s.size := rfl
  have HZ := Lib.hid hz
  obtain ⟨b, hb⟩ : ∃ b, s.data.toList = b := ⟨_, rfl⟩
  rw [hb] at G0 GD hsz ⊢
  have HBL := Lib.hid hsz
  clear hz hb
  have hk0 : kN b ≤ b.length := by have := kN_le b (Nat.zero_le _); simpa using this
  have hk1 : hdK b ≤ b.length := kN_le b hk0
  have hkk : (kN b : Int) + (kN (b.drop (kN b)) : Int) = (hdK b : Int) := by unfold hdK; omega
  have HRB := Lib.hid (fun h => readA_bad (b := b) h)
  have HRM := Lib.hid (fun h => readA_many (b := b) h)
  have HH : Hid (hdOk b = (gok b && gok (b.drop (kN b)))) := Lib.hid rfl
  have HM : Hid (getV (b.drop (kN b)) = hdM b) := Lib.hid rfl
  have hm := bits_getN (b.drop (kN b))
  rw [HM.out] at hm
  have HV0 := Lib.hid (bits_getN b)
  obtain ⟨m0, m1⟩ := hm
  have hk0' : (kN b : Int) ≤ (s.size : Int) := by omega
  rw [hsz] at hk0 hk1
  have hk1' : hdK b ≤ 9223372036854775807 := Nat.le_trans hk1 HZ.out
  clear hsz
  cases g0 : gok b with
  | false =>
    have HR := Lib.hid (HRB.out (by rw [HH.out, g0]; rfl))
    have GG0 := Lib.hid g0
    clear g0
    go_enter Tryd.func37, Tryd.ntmps37
    go_wp2_with fail
    refine (G0.out _).mono ?_
    rintro e w1 ⟨rfl, rfl⟩
    rw [GG0.out]
    go_wp2_with fail
    go_ret3
    exact ⟨none, 0, 0, false, [], rfl, Lst.nil _ _ _, by simp, Below.refl _ _, by simp [Value.ownBlock], by rw [HR.out]; rfl⟩
  | true =>
    have GG0 := Lib.hid g0
    clear g0
    cases g1 : gok (b.drop (kN b)) with
    | false =>
      have HR := Lib.hid (HRB.out (by rw [HH.out, g1, Bool.and_false]))
      have GG1 := Lib.hid g1
      clear g1
      go_enter Tryd.func37, Tryd.ntmps37
      go_wp2_with fail
      refine (G0.out _).mono ?_
      rintro e w1 ⟨rfl, rfl⟩
      rw [GG0.out]
      go_wp2_with fail
      refine (GD.out (kN b) _).mono ?_
      rintro e w1 ⟨rfl, rfl⟩
      rw [GG1.out]
      go_wp2_with fail
      go_ret3
      exact ⟨none, 0, 0, false, [], rfl, Lst.nil _ _ _, by simp, Below.refl _ _, by simp [Value.ownBlock], by rw [HR.out]; rfl⟩
    | true =>
      have HOK := Lib.hid (show hdOk b = true by rw [HH.out, GG0.out, g1]; rfl)
      have GG1 := Lib.hid g1
      clear g1
      by_cases hmany : 12 ≤ hdM b
      · have HR := Lib.hid (HRM.out hmany)
        go_enter Tryd.func37, Tryd.ntmps37
        go_wp2_with fail
        refine (G0.out _).mono ?_
        rintro e w1 ⟨rfl, rfl⟩
        rw [GG0.out]
        go_wp2_with fail
        refine (GD.out (kN b) _).mono ?_
        rintro e w1 ⟨rfl, rfl⟩
        rw [GG1.out, HM.out]
        go_wp2_with fail
        go_ret3
        exact ⟨none, 0, 0, false, [], rfl, Lst.nil _ _ _, by simp, Below.refl _ _, by simp [Value.ownBlock], by rw [HR.out]; rfl⟩
      have hmany' : decide (12 ≤ hdM b) = false := by simpa using hmany
      have hm12 : hdM b ≤ 11 := by omega
      clear hmany
      have HST : Hid (RrSt w w b 0 (hdK b) (getV b) none 0 []) := Lib.hid
        { ls := Lst.nil _ _ _, new := by simp [Value.ownBlock], since := Since.refl _, len := rfl, le := by rw [HBL.out]; exact hk1
          up := rfl, hi0 := fun _ => rfl, hib := by have := HV0.out; omega, each := by simp }
      have HEND := Lib.hid (fun (i : Nat) (M : List Rng) (k : Nat) h1 h2 h3 => readA_end (b := b) (i := i) (M := M) (k := k) h1 HOK.out h2 h3)
      have HUP := Lib.hid (fun (i : Nat) h1 h2 => readA_up (b := b) (i := i) h1 h2)
      go_enter Tryd.func37, Tryd.ntmps37
      go_wp2_with fail
      refine (G0.out _).mono ?_
      rintro e w1 ⟨rfl, rfl⟩
      rw [GG0.out]
      go_wp2_with fail
      refine (GD.out (kN b) _).mono ?_
      rintro e w1 ⟨rfl, rfl⟩
      rw [GG1.out, HM.out]
      trace "A"; go_wp2_with fail
      go_loopw [5, 6, 10, 11] (fun s5 s6 s10 s11 wr => ∃ (i k : Nat) (h : Int) (A : Option Addr) (cap : Nat) (M : List Rng), s5 = .int .i64 h ∧ s6 = .int .i64 k ∧ s10 = .slice A i cap ∧ s11 = .int .i64 i ∧ (i : Int) ≤ hdM b + 1 ∧ RrSt w wr b i k h A cap M) (fun _ _ _ s11 _ => (hdM b + 1).toNat - (intOf s11).toNat)
      case atStart => exact ⟨0, hdK b, getV b, none, 0, [], rfl, rfl, rfl, rfl, by omega, HST.out⟩
      case round =>
        clear hkk hk0 hk1 hk0' hk1'
        obtain ⟨i, k, h, A, cap, M, rfl, rfl, rfl, rfl, hup, hS⟩ := hrel
        have HS := Lib.hid hS
        have hs := hS.since
        obtain ⟨h1, h2⟩ := hS.hib
        have HLN := Lib.hid hS.len
        have hkl : k ≤ s.size := by rw [← HBL.out]; exact hS.le
        clear hS
        by_cases hle : (i : Int) ≤ hdM b
        case neg =>
          have HE := Lib.hid (HEND.out i M k HS.out.up (by omega) (by omega))
          have hle' : decide ((i : Int) ≤ hdM b) = false := by simpa using hle
          clear hle
          go_wp2_with fail
          go_ret3
          exact ⟨A, cap, k, true, M, by rw [HLN.out]; rfl, by rw [HLN.out]; exact HS.out.ls, by rw [HLN.out]; omega, hs, HS.out.new, by rw [HE.out]; rfl⟩
        have HNH0 : Hid (i = 0 → h = nH b (getV b) i M k ∧ k = nK b i k ∧ nG b i k = true) := Lib.hid (fun h0 => ⟨by rw [HS.out.hi0 h0]; unfold nH; rw [if_pos h0], by unfold nK; rw [if_pos h0], by unfold nG; rw [if_pos h0]⟩)
        have HNH1 : Hid (0 < i → (rat M (i - 1)).lo - 2 - getV (b.drop k) = nH b (getV b) i M k ∧ k + kN (b.drop k) = nK b i k ∧ gok (b.drop k) = nG b i k) := Lib.hid (fun h0 => ⟨by unfold nH; rw [if_neg (by omega)], by unfold nK; rw [if_neg (by omega)], by unfold nG; rw [if_neg (by omega)]⟩)
        have HNB : Hid (0 < i → 0 ≤ (rat M (i - 1)).lo ∧ (rat M (i - 1)).lo ≤ 1073741823) := Lib.hid (fun h0 => by rw [rat_get (by rw [HLN.out]; omega)]; exact HS.out.each _ (List.getElem_mem _))
        have HAI : Hid (0 < i → ∃ q, A = some ⟨q, 0, none⟩) := Lib.hid (fun h0 => by
          obtain ⟨A', cap', hv, _, _, hA⟩ := HS.out.ls.shape
          simp only [Value.slice.injEq] at hv
          obtain ⟨rfl, _⟩ := hv
          rcases hA with ⟨_, h1, _⟩ | hq
          · have := congrArg List.length h1; rw [List.length_map, HLN.out] at this; simp at this; omega
          · exact hq)
        have HSO := Lib.hid (fun (hn : ¬ (nG b i k = true ∧ gok (b.drop (nK b i k)) = true ∧ 0 ≤ nH b (getV b) i M k - getV (b.drop (nK b i k)))) => HUP.out (i + 1) (step_no HS.out.up hn) (by omega))
        have HSY := Lib.hid (fun h1 h2 h3 => step_ok (M := M) HS.out.up h1 h2 h3)
        have hkn2 : nK b i k ≤ s.size := by
          rcases Nat.eq_zero_or_pos i with h0 | h0
          · rw [← (HNH0.out h0).2.1]; exact hkl
          · rw [← (HNH1.out h0).2.1, ← HBL.out]; exact kN_le b HS.out.le
        have hkl' : (k : Int) ≤ (s.size : Int) := by omega
        have hzz := HZ.out
        have HML : Hid ((M.map rngRow).length = i) := Lib.hid (by rw [List.length_map, HLN.out])
        cases hgap : nG b i k with
        | false =>
          have hip : 0 < i := by
            rcases Nat.eq_zero_or_pos i with h0 | h0
            · have := (HNH0.out h0).2.2; rw [hgap] at this; cases this
            · exact h0
          have hip' : (0 : Int) < (i : Int) := by omega
          have hg := (HNH1.out hip).2.2
          rw [hgap] at hg
          have HG := Lib.hid hg
          have HR := Lib.hid (HSO.out (fun h => by rw [hgap] at h; cases h.1))
          clear hg hgap hkn2
          go_wp2_with fail
          refine (GD.out k _).mono ?_
          rintro e w1 ⟨rfl, rfl⟩
          rw [HG.out]
          go_wp2_with fail
          go_ret3
          exact ⟨none, 0, 0, false, [], rfl, Lst.nil _ _ _, by simp, hs, by simp [Value.ownBlock], by rw [HR.out]; rfl⟩
        | true =>
          have HGAP := Lib.hid hgap
          clear hgap
          have hbd : -1073741826 ≤ nH b (getV b) i M k ∧ nH b (getV b) i M k ≤ 1073741823 := by
            rcases Nat.eq_zero_or_pos i with h0 | h0
            · rw [← (HNH0.out h0).1]; exact ⟨h1, h2⟩
            · have a1 := HNB.out h0
              have a2 := bits_getN (b.drop k)
              rw [← (HNH1.out h0).1]
              omega
          obtain ⟨b1, b2⟩ := hbd
          have hkn2' : (nK b i k : Int) ≤ (s.size : Int) := by omega
          by_cases hi0 : i = 0
          case' pos =>
            obtain ⟨q1, q2, q3⟩ := HNH0.out hi0
            have hi0' : decide (0 < i) = false := by simp; omega
            generalize nH b (getV b) i M k = hh at *
            generalize nK b i k = k1 at *
            obtain rfl : hh = h := q1.symm
            obtain rfl : k1 = k := q2.symm
            clear q1 q2 q3 HNH0 HNH1 HNB HAI hi0
            trace "B"; go_wp2_with fail
          case' neg =>
            have hip : 0 < i := by omega
            have hip' : (0 : Int) < (i : Int) := by omega
            obtain ⟨q1, q2, q3⟩ := HNH1.out hip
            obtain ⟨l0, l1⟩ := HNB.out hip
            obtain ⟨q, rfl⟩ := HAI.out hip
            have dq : wr.cell? ⟨q, (i - 1) * 2, none⟩ = some (.int .i64 (rat M (i - 1)).lo) := by
              have := HS.out.ls.cell rfl (elem_of_rng (L := M) (i := i - 1) (by rw [HLN.out]; omega)) (j := 0) rfl
              rw [rat_get (by rw [HLN.out]; omega)]
              simpa using this
            have hi1 : (i : Int) - 1 = ((i - 1 : Nat) : Int) := by omega
            have hi3 : ((i - 1 : Nat) : Int) < (i : Int) := by omega
            obtain ⟨v0, v1⟩ := bits_getN (b.drop k)
            have lq : q < wr.heap.size := HS.out.ls.lt q (by simp [Value.ownBlock])
            rw [HGAP.out] at q3
            have Q3 := Lib.hid q3
            have hk1 : (k : Int) + (kN (b.drop k) : Int) = (nK b i k : Int) := by omega
            clear HNH0 HNH1 HNB HAI q2 q3 hi0
            have GDk := Lib.hid (GD.out k)
            generalize (rat M (i - 1)).lo = pl at *
            generalize getV (b.drop k) = V at *
            generalize kN (b.drop k) = kk at *
            generalize nH b (getV b) i M k = hh at *
            generalize nK b i k = k1 at *
            trace "C"; go_wp2_with fail
            trace "C1"; refine (GDk.out _).mono ?_
            rintro e w1 ⟨rfl, rfl⟩
            rw [Q3.out]
            trace "C2"; go_wp2_with fail
            trace "C3"; skip
          all_goals
            have GD1 := Lib.hid (GD.out k1)
            obtain ⟨v2, v3⟩ := bits_getN (b.drop k1)
            have hkn := kN_le b (k := k1) (by rw [HBL.out]; exact hkn2)
            rw [HBL.out] at hkn
            have hk2 : (k1 : Int) + (kN (b.drop k1) : Int) = ((k1 + kN (b.drop k1) : Nat) : Int) := by omega
            generalize getV (b.drop k1) = V2 at *
            generalize kN (b.drop k1) = K2 at *
            obtain ⟨k3, hk3⟩ : ∃ k3, k1 + K2 = k3 := ⟨_, rfl⟩
            rw [hk3] at hk2 hkn HSY
            clear hk3
            trace "D"; refine (GD1.out _).mono ?_
            rintro e w1 ⟨rfl, rfl⟩
            cases hg2 : gok (b.drop k1) with
            | false =>
              have HR := Lib.hid (HSO.out (fun h => by rw [hg2] at h; cases h.2.1))
              clear hg2
              trace "E"; go_wp2_with fail
              go_ret3
              exact ⟨none, 0, 0, false, [], rfl, Lst.nil _ _ _, by simp, hs, by simp [Value.ownBlock], by rw [HR.out]; rfl⟩
            | true =>
              by_cases hlo : hh - V2 < 0
              · have HR := Lib.hid (HSO.out (fun h => by omega))
                clear hg2
                trace "F"; go_wp2_with fail
                go_ret3
                exact ⟨none, 0, 0, false, [], rfl, Lst.nil _ _ _, by simp, hs, by simp [Value.ownBlock], by rw [HR.out]; rfl⟩
              have hlo' : decide (hh - V2 < 0) = false := by simpa using hlo
              have HNX := Lib.hid (HSY.out HGAP.out hg2 (by omega))
              clear hg2 HSO HSY
              trace "G"; go_wp2_with (at_builtin; refine wpList_push rfl _ _ 65 rfl 69 2 16 Tryd.elRange2 (.slice _ i cap) (M.map rngRow) rfl (HS.out.ls.alloc _) wr.heap.size 1 [.int .i64 (hh - V2), .int .i64 hh] rfl rfl (rngRow_one ⟨hh - V2, hh⟩).2 (BlockIs.fresh _ _ _) (by rw [HML.out]; omega) ?_; intro q9 cq w5 hl5 ho5 hq5 hlt5)
              rw [HML.out] at hl5
              have hs5 : Since w w5 := (hs.alloc _).out' ho5 (fun k hk => HS.out.new k (by rw [blocks_any _ 0 0 i cap]; exact hk))
              have hqn : w.heap.size ≤ q9 := by
                rcases hq5 with h | h
                · exact HS.out.new q9 (by rw [blocks_any _ 0 0 i cap]; exact h)
                · rw [h]; have := hs.le; simp; omega
              have HST2 : Hid (RrSt w w5 b (i + 1) k3 hh (some ⟨q9, 0, none⟩) cq (M ++ [⟨hh - V2, hh⟩])) := Lib.hid
                { ls := by rw [List.map_append]; exact hl5
                  new := fun k hk => by have : q9 = k := by simpa [Value.ownBlock] using hk
                                        omega
                  since := hs5, len := by rw [List.length_append, HLN.out]; rfl
                  le := by rw [HBL.out]; exact hkn
                  up := HNX.out
                  hi0 := fun h => by omega
                  hib := ⟨b1, b2⟩
                  each := fun r hr => by
                    rcases List.mem_append.1 hr with hr | hr
                    · exact HS.out.each r hr
                    · rw [List.mem_singleton.1 hr]; exact ⟨by show 0 ≤ hh - V2; omega, by show hh - V2 ≤ 1073741823; omega⟩ }
              clear hl5 ho5 hq5 hlt5 hqn
              trace "H"; go_wp2_with fail
              go_roundw
              case rel => exact ⟨i + 1, k3, hh, some ⟨q9, 0, none⟩, cq, _, rfl, rfl, by first | rfl | rw [HLN.out], by go_num, by omega, HST2.out⟩
              case measure => simp [intOf]; omega
end Go.Proofs.YthnolkbolmbkdaaDoor
