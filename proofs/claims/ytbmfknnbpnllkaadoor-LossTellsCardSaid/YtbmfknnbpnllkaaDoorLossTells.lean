/- LossTells: for every packets, ranges and times the law returns true: what is wrong with any packets that were sent, which are lost, which are left, and how many bytes they are, is told as the reference says. Condition: errors.errorType holds its handle (the row lists it, the card ties it). -/
import Derived.Test.YtbmfknnbpnllkaaDoorBase
import Derived.Test.YtbmfknnbpnllkaaDoorMay
import Derived.Test.YtbmfknnbpnllkaaDoorRMay
import Derived.Test.YtbmfknnbpnllkaaDoorMayB
import Derived.Test.YtbmfknnbpnllkaaDoorTold
import Derived.Test.YtbmfknnbpnllkaaDoorLaid
import Derived.Test.YtbmfknnbpnllkaaDoorOnly
import Derived.Test.YtbmfknnbpnllkaaDoorSince
import Derived.Test.YtbmfknnbpnllkaaDoorRules
import Derived.Test.YtbmfknnbpnllkaaDoorOut
import Derived.Test.YtbmfknnbpnllkaaDoorLst
import Derived.Test.YtbmfknnbpnllkaaDoorRng
import Derived.Test.YtbmfknnbpnllkaaDoorIns
import Derived.Test.YtbmfknnbpnllkaaDoorRd
import Derived.Test.YtbmfknnbpnllkaaDoorRngs
import Derived.Test.YtbmfknnbpnllkaaDoorLoss
import Derived.Test.YtbmfknnbpnllkaaDoorDelG
import Derived.Test.YtbmfknnbpnllkaaDoorLeft
import Derived.Test.YtbmfknnbpnllkaaDoorDelF
import Derived.Test.YtbmfknnbpnllkaaDoorLost
import Derived.Test.YtbmfknnbpnllkaaDoorLossLaw
import Derived.Test.YtbmfknnbpnllkaaDoorWay
import Derived.Deep.DeepCutAuto
import Derived.Deep.QuietTactic
import Derived.BigQuiet
import Derived.Test.YtbmfknnbpnllkaaDoorCards
import Derived.Test.YtbmfknnbpnllkaaDoorTie
import Derived.Deep.DeepHandedRow
import Derived.LaidLaws
import Derived.LaidHandle
import Derived.Deep.DeepWitnessRowRef
import Derived.Test.YtbmfknnbpnllkaaDoorRows
import Derived.WalkKit
import Derived.ProofKit
import Derived.OpenShut
import Derived.ShutString
import Derived.ChangeOld
import Derived.Below
import Derived.Lib.SmallJoins
import Derived.Deep.Slices
import Derived.Deep.Matrix
import Derived.Deep.Strs
namespace Go.Proofs.YtbmfknnbpnllkaaDoor.lossTells
open Go.ChangeShapes Go.WideShapes Go.ChangeAt Go.RowKit
open Go.ChangeMaps (open_string shut_string)
set_option linter.unusedVariables false

noncomputable abbrev laidWorld := YtbmfknnbpnllkaaDoor.laidWorld
theorem laidMetW (os : Os) (args : Array Value) : laidMetH Tryd.prog Rows.lossTellsRow.laid ((laidWorld os).forCall (fun _ _ => 0) ⟨#[], args, []⟩).memory := laidMet_et os args
theorem laidWalk {W : World} (h : laidMetH Tryd.prog Rows.lossTellsRow.laid W) : ETok W := laid_et h
/-- the two lists that the reference makes -/
structure Made (w wx : World) (A1 : Option Addr) (k1 c1 : Nat) (K : List Snt) (A2 : Option Addr) (k2 c2 : Nat) (X : List Int) : Prop where
  la : Lst wx 68 3 (.slice A1 k1 c1) (K.map sntRow)
  lb : Lst wx 3 1 (.slice A2 k2 c2) (X.map intRow)
  na : ∀ q, q ∈ blocks (.slice A1 0 0) → w.heap.size ≤ q
  nb : ∀ q, q ∈ blocks (.slice A2 0 0) → w.heap.size ≤ q
  ka : K.length = k1
  kb : X.length = k2
  since : Since w wx
section
variable {w wx wy : World} {A1 A2 : Option Addr} {k1 c1 k2 c2 : Nat} {K : List Snt} {X : List Int}
theorem lst_apart' {w : World} {E E' s s' : Nat} {v v' : Value} {es es' : List (List Value)} (h : Lst w E s v es) (h' : Lst w E' s' v' es') (hne : E ≠ E') : ∀ k, k ∈ blocks v → k ∉ blocks v' := by
  intro k hk hk'
  rcases h.own.2 with ⟨rfl, _⟩ | ⟨g, cap, cur, rfl, _, hg, _⟩
  · simp [Value.ownBlock] at hk
  · rcases h'.own.2 with ⟨rfl, _⟩ | ⟨g', cap', cur', rfl, _, hg', _⟩
    · simp [Value.ownBlock] at hk'
    · have e1 : g = k := by simpa [Value.ownBlock] using hk
      have e2 : g' = k := by simpa [Value.ownBlock] using hk'
      subst e1 e2
      rw [hg] at hg'
      simp only [Option.some.injEq, Obj.cells.injEq] at hg'
      exact hne hg'.2.1
theorem Made.later (h : Made w wx A1 k1 c1 K A2 k2 c2 X) (hb : Below wx.heap.size wx wy) : Made w wy A1 k1 c1 K A2 k2 c2 X := ⟨h.la.later hb, h.lb.later hb, h.na, h.nb, h.ka, h.kb, h.since.later hb⟩
theorem far_of {w wx : World} {A : Option Addr} {n c q : Nat} {o : Obj} (hn : ∀ q, q ∈ blocks (.slice A 0 0) → w.heap.size ≤ q) (hs : Since w wx) (hq : q ∈ blocks (.slice A n c) ∨ q = (wx.alloc o).heap.size) : ∀ k, k ∈ blocks (.slice (some ⟨q, 0, none⟩) 0 0) → w.heap.size ≤ k := by
  intro k hk
  have hkq : q = k := by simpa [Value.ownBlock] using hk
  rw [← hkq]
  rcases hq with h1 | h1
  · exact hn _ (blocks_any A _ _ _ _ ▸ h1)
  · have := hs.le; simp at h1; omega
theorem Made.pushA (h : Made w wx A1 k1 c1 K A2 k2 c2 X) {q c : Nat} {o : Obj} (s : Snt) (hl : Lst wy 68 3 (.slice (some ⟨q, 0, none⟩) (k1 + 1) c) (K.map sntRow ++ [sntRow s])) (ho : Out (wx.alloc o) wy (blocks (.slice A1 k1 c1))) (hq : q ∈ blocks (.slice A1 k1 c1) ∨ q = (wx.alloc o).heap.size) :
    Made w wy (some ⟨q, 0, none⟩) (k1 + 1) c (K ++ [s]) A2 k2 c2 X := by
  refine ⟨by rw [List.map_append]; exact hl, (h.lb.alloc o).kept ho (fun k hk => lst_apart' h.lb h.la (by decide) k hk), far_of h.na h.since hq, h.nb, by rw [List.length_append, h.ka]; rfl, h.kb, (h.since.alloc o).out' ho (fun k hk => h.na k (blocks_any A1 _ _ _ _ ▸ hk))⟩
theorem Made.pushB (h : Made w wx A1 k1 c1 K A2 k2 c2 X) {q c : Nat} {o : Obj} (x : Int) (hl : Lst wy 3 1 (.slice (some ⟨q, 0, none⟩) (k2 + 1) c) (X.map intRow ++ [intRow x])) (ho : Out (wx.alloc o) wy (blocks (.slice A2 k2 c2))) (hq : q ∈ blocks (.slice A2 k2 c2) ∨ q = (wx.alloc o).heap.size) :
    Made w wy A1 k1 c1 K (some ⟨q, 0, none⟩) (k2 + 1) c (X ++ [x]) := by
  refine ⟨(h.la.alloc o).kept ho (fun k hk => lst_apart' h.la h.lb (by decide) k hk), by rw [List.map_append]; exact hl, h.na, far_of h.nb h.since hq, h.ka, by rw [List.length_append, h.kb]; rfl, (h.since.alloc o).out' ho (fun k hk => h.nb k (blocks_any A2 _ _ _ _ ▸ hk))⟩
end

set_option maxRecDepth 100000 in
set_option maxHeartbeats 20000000 in
theorem walk (v0 : Value) (L : List Snt) (v1 : Value) (M : List Rng) (now wait : Int) (w : World) (w0 : SntsIn w v0 L) (w1 : RngsIn w v1 M) (w2 : (Lit.int .i64 now).wf = true) (w3 : (Lit.int .i64 wait).wf = true) (hL : ETok w) :
    Calls Tryd.prog 7 #[v0, v1, .int .i64 now, .int .i64 wait] w fun e w' => e = .returned (.bool true) ∧ Below w.heap.size w w' := by
  have HET := Lib.hid hL
  obtain ⟨hb, hr⟩ := w0
  obtain ⟨A, cap, rfl, hz1, hz2, hz3⟩ := id hr.shape
  rw [List.length_map] at hr ⊢
  obtain ⟨n, hn⟩ : ∃ n, L.length = n := ⟨_, rfl⟩
  rw [hn] at hr ⊢
  have HR := Lib.hid hr
  have HN := Lib.hid hn
  have hcm := hr.cap_le.2
  clear hz1 hz2 hz3 hr hn hb
  obtain ⟨hb2, hr2⟩ := w1
  obtain ⟨A2, cap2, rfl, hz1, hz2, hz3⟩ := id hr2.shape
  rw [List.length_map] at hr2 ⊢
  obtain ⟨n2, hn2⟩ : ∃ n2, M.length = n2 := ⟨_, rfl⟩
  rw [hn2] at hr2 ⊢
  have HR2 := Lib.hid hr2
  have HN2 := Lib.hid hn2
  have HB2 := Lib.hid hb2
  have hcm2 := hr2.cap_le.2
  clear hz1 hz2 hz3 hr2 hn2 hb2 w2 w3 hL
  go_enter Tryd.func7, Tryd.ntmps7
  go_wp2_with fail
  refine (scheckR A n cap L _ HN.out HR.out).mono ?_
  rintro e w1 ⟨rfl, hb1⟩
  have hs1 : Since w w1 := hb1
  go_wp2_with fail
  refine (scheck A n cap L _ HN.out (HR.out.later hs1)).mono ?_
  rintro e w2 ⟨rfl, hb2⟩
  have hs2 := hs1.later hb2
  go_wp2_with fail
  refine (same_yes (sntE L) _ (HET.out.later hs2)).mono ?_
  rintro e w3 ⟨rfl, hb3⟩
  have hs3 := hs2.later hb3
  clear hb1 hb2 hb3 hs1 hs2
  have HG : Hid (∀ i, i < n → sntE L = 0 → 1 ≤ (sat L i).z ∧ (sat L i).z ≤ 200) := Lib.hid (fun i hi h => by
    have := snt_all h (sat L i) (by rw [sat_get (by rw [HN.out]; exact hi)]; exact List.getElem_mem _)
    exact ⟨this.2.2.2.2.1, this.2.2.2.2.2⟩)
  have HZ : Hid (sntE L = 0 → ∀ i, i ≤ n → 0 ≤ zsum L i ∧ zsum L i ≤ 200 * i) := Lib.hid (fun h i hi => zsum_bound h i (by rw [HN.out]; exact hi))
  have HW : Hid (wayN L = if sntE L = 0 then zsum L n else 0) := Lib.hid (by unfold wayN; rw [HN.out])
  have HE : Hid (bothE L M = if sntE L = 0 then rngE M else sntE L) := Lib.hid rfl
  have HF : Hid (lostE L M now wait = if bothE L M = 0 then (if now < 0 ∨ 100000 < now ∨ wait < 1 ∨ 100000 < wait then 1 else 0) else bothE L M) := Lib.hid rfl
  have HWL : Hid (sntE L = 0 → n ≤ 30) := Lib.hid (fun h => by have := snt_len h; have := HN.out; omega)
  obtain ⟨G, hG⟩ : ∃ G, sntE L = G := ⟨_, rfl⟩
  rw [hG] at HG HZ HW HE HWL ⊢
  have HGD := Lib.hid hG
  clear hG
  repeat ((fail_if_success (with_reducible refine stop_at 4 ?_)); first | fail | go_values | go_skip | go_guarded | go_step | go_upon | go_back | go_simp)
  go_cut [11, 12] (fun s11 s12 wx => s11 = .int .i64 (wayN L) ∧ Since w wx)
  case first =>
    as_aux_lemma =>
      go_wp2_with fail
      go_loopw [11, 12] (fun s11 s12 wr => ∃ i : Nat, s12 = .int .i64 i ∧ i ≤ n ∧ s11 = .int .i64 (if G = 0 then zsum L i else 0) ∧ Since w wr) (fun _ s12 _ => n - (intOf s12).toNat)
      case atStart => exact ⟨0, rfl, Nat.zero_le _, by split <;> rfl, hs3⟩
      case round =>
        obtain ⟨i, rfl, hi, rfl, hs⟩ := hrel
        by_cases hlt : i < n
        case neg =>
          obtain rfl : i = n := by omega
          have hf : decide ((i : Int) < (i : Int)) = false := by simp
          rw [← HW.out]
          go_wp2_with fail
          go_meet
          case rel => exact ⟨rfl, hs⟩
        have hlt' : (i : Int) < (n : Int) := by omega
        by_cases hg : G = 0
        case neg =>
          have hg' : (G == 0) = false := by simpa using hg
          rw [if_neg hg]
          have HW0 : Hid (wayN L = 0) := Lib.hid (by rw [HW.out, if_neg hg])
          clear hg
          go_wp2_with fail
          go_meet
          case rel => exact ⟨by rw [HW0.out], hs⟩
        obtain ⟨b, off, rfl, hbl, hc⟩ := HR.out.snt (i := i) (by rw [HN.out]; exact hlt)
        obtain ⟨c0, c1, c2⟩ := hc wr hs i (by rw [HN.out]; exact hlt)
        have lb : b < wr.heap.size := Nat.lt_of_lt_of_le hbl hs.le
        have hsm := HG.out i hlt hg
        have hz := HZ.out hg i hi
        have hn30 := HWL.out hg
        have hst : zsum L (i + 1) = zsum L i + (sat L i).z := rfl
        have HST := Lib.hid hst
        subst hg
        rw [if_pos rfl]
        generalize (sat L i).z = sz at *
        generalize zsum L i = zi at *
        obtain ⟨z1, z2⟩ := hsm
        obtain ⟨z3, z4⟩ := hz
        have z5 : zi ≤ 6000 := by omega
        clear hc hst z4 c0 c1
        go_wp2_with fail
        go_roundw
        case rel => exact ⟨i + 1, by go_num, by omega, by first | rw [HST.out] | rw [if_pos rfl, HST.out], hs⟩
        case measure => simp [intOf]; omega
  case rest =>
    as_aux_lemma =>
      obtain ⟨wo, rfl⟩ : ∃ wo : World, wo = wc := ⟨_, rfl⟩
      obtain ⟨rfl, hs⟩ := hcut
      clear hs3
      go_wp2_with fail
      refine (sway A n cap L _ HN.out (HR.out.later hs)).mono ?_
      rintro e w4 ⟨rfl, hb4⟩
      have hs4 := hs.later hb4
      rw [HGD.out]
      go_wp2_with fail
      refine (same_yes G _ (HET.out.later hs4)).mono ?_
      rintro e w5 ⟨rfl, hb5⟩
      have hs5 := hs4.later hb5
      generalize wayN L = wn at *
      clear hb4 hb5 hs hs4
      repeat ((fail_if_success (with_reducible refine stop_at 11 ?_)); first | fail | go_values | go_skip | go_guarded | go_step | go_upon | go_back | go_simp)
      obtain ⟨wq, rfl⟩ : ∃ wq : World, wq = w5 := ⟨_, rfl⟩
      go_cut [16] (fun s16 wx => s16 = .int .i64 (bothE L M) ∧ Since w wx)
      case first =>
        as_aux_lemma =>
          by_cases hg : G = 0
          · subst hg
            have HE0 : Hid (bothE L M = rngE M) := Lib.hid (by rw [HE.out, if_pos rfl])
            go_wp2_with fail
            refine (rcheckR A2 n2 cap2 M _ HN2.out HB2.out (HR2.out.later hs5)).mono ?_
            rintro e w6 ⟨rfl, hb6⟩
            go_wp2_with fail
            go_meet
            case rel => exact ⟨by rw [HE0.out], hs5.later hb6⟩
          · have HE0 : Hid (bothE L M = G) := Lib.hid (by rw [HE.out, if_neg hg])
            have hg' : (G == 0) = false := by simpa using hg
            clear hg
            go_wp2_with fail
            go_meet
            case rel => exact ⟨by rw [HE0.out], hs5⟩
      case rest =>
        as_aux_lemma =>
          obtain ⟨wo, rfl⟩ : ∃ wo : World, wo = wc := ⟨_, rfl⟩
          obtain ⟨rfl, hs6⟩ := hcut
          clear hs5
          obtain ⟨E, hE⟩ : ∃ E, bothE L M = E := ⟨_, rfl⟩
          rw [hE] at HF ⊢
          have HED := Lib.hid hE
          clear hE
          repeat ((fail_if_success (with_reducible refine stop_at 14 ?_)); first | fail | go_values | go_skip | go_guarded | go_step | go_upon | go_back | go_simp)
          obtain ⟨wq, rfl⟩ : ∃ wq : World, wq = wo := ⟨_, rfl⟩
          go_cut [17] (fun s17 wx => s17 = .int .i64 (lostE L M now wait) ∧ Since w wx)
          case first =>
            as_aux_lemma =>
              by_cases hg : E = 0
              case neg =>
                have HE0 : Hid (lostE L M now wait = E) := Lib.hid (by rw [HF.out, if_neg hg])
                have hg' : (E == 0) = false := by simpa using hg
                clear hg
                go_wp2_with fail
                go_meet
                case rel => exact ⟨by rw [HE0.out], hs6⟩
              subst hg
              have HE0 : Hid (lostE L M now wait = if now < 0 ∨ 100000 < now ∨ wait < 1 ∨ 100000 < wait then 1 else 0) := Lib.hid (by rw [HF.out, if_pos rfl])
              by_cases t1 : now < 0
              · have HE1 := Lib.hid (show lostE L M now wait = 1 by rw [HE0.out, if_pos (Or.inl t1)])
                go_wp2_with fail
                go_meet
                case rel => exact ⟨by rw [HE1.out], hs6⟩
              have t1' : decide (now < 0) = false := by simpa using t1
              by_cases t2 : 100000 < now
              · have HE1 := Lib.hid (show lostE L M now wait = 1 by rw [HE0.out, if_pos (Or.inr (Or.inl t2))])
                clear t1
                go_wp2_with fail
                go_meet
                case rel => exact ⟨by rw [HE1.out], hs6⟩
              have t2' : decide (100000 < now) = false := by simpa using t2
              by_cases t3 : wait < 1
              · have HE1 := Lib.hid (show lostE L M now wait = 1 by rw [HE0.out, if_pos (Or.inr (Or.inr (Or.inl t3)))])
                clear t1 t2
                go_wp2_with fail
                go_meet
                case rel => exact ⟨by rw [HE1.out], hs6⟩
              have t3' : decide (wait < 1) = false := by simpa using t3
              by_cases t4 : 100000 < wait
              · have HE1 := Lib.hid (show lostE L M now wait = 1 by rw [HE0.out, if_pos (Or.inr (Or.inr (Or.inr t4)))])
                clear t1 t2 t3
                go_wp2_with fail
                go_meet
                case rel => exact ⟨by rw [HE1.out], hs6⟩
              have t4' : decide (100000 < wait) = false := by simpa using t4
              have HE1 := Lib.hid (show lostE L M now wait = 0 by rw [HE0.out, if_neg (by omega)])
              clear t1 t2 t3 t4
              go_wp2_with fail
              go_meet
              case rel => exact ⟨by rw [HE1.out], hs6⟩
          case rest =>
            as_aux_lemma =>
              obtain ⟨wo, rfl⟩ : ∃ wo : World, wo = wc := ⟨_, rfl⟩
              obtain ⟨rfl, hs7⟩ := hcut
              clear hs6
              obtain ⟨F, hF⟩ : ∃ F, lostE L M now wait = F := ⟨_, rfl⟩
              rw [hF] at HF ⊢
              have HFD := Lib.hid hF
              have HEF : Hid (F = 0 → E = 0 ∧ 0 ≤ now ∧ now ≤ 100000) := Lib.hid (fun h => by have := lostE_both (HFD.out.trans h); exact ⟨HED.out ▸ this.1, this.2.1, this.2.2.1⟩)
              clear hF
              repeat ((fail_if_success (with_reducible refine stop_at 18 ?_)); first | fail | go_values | go_skip | go_guarded | go_step | go_upon | go_back | go_simp)
              obtain ⟨wq, rfl⟩ : ∃ wq : World, wq = wo := ⟨_, rfl⟩
              go_cut [18, 19, 20, 21, 22, 23, 24] (fun s18 s19 s20 s21 s22 s23 s24 wx => ∃ (A1 : Option Addr) (k1 c1 : Nat) (B1 : Option Addr) (k2 c2 : Nat), s18 = .slice A1 k1 c1 ∧ s19 = .slice B1 k2 c2 ∧ Made w wx A1 k1 c1 (leftR L M) B1 k2 c2 (lostL L M now wait))
              case first =>
                as_aux_lemma =>
                  have HLR : Hid (leftR L M = if E = 0 then leftL L M else []) := Lib.hid (by rw [← HED.out]; rfl)
                  have HLL : Hid (lostL L M now wait = if F = 0 then lostRL (leftL L M) M now wait else []) := Lib.hid (by
                    by_cases h : F = 0
                    · rw [if_pos h]; exact (lostRL_eq (HFD.out.trans h)).symm
                    · rw [if_neg h]; unfold lostL; rw [if_neg (by rw [HFD.out]; exact h)])
                  have HSA : Hid (E = 0 → ∀ i, i < n → 0 ≤ (sat L i).n ∧ (sat L i).n ≤ 1073741823 ∧ 0 ≤ (sat L i).t ∧ (sat L i).t ≤ 100000) := Lib.hid (fun h i hi => by
                    have := snt_all (both_zero (HED.out.trans h)).1 (sat L i) (by rw [sat_get (by rw [HN.out]; exact hi)]; exact List.getElem_mem _)
                    exact ⟨this.1, this.2.1, this.2.2.1, this.2.2.2.1⟩)
                  have HRA : Hid (E = 0 → ∀ j, j < n2 → 0 ≤ (rat M j).hi ∧ (rat M j).hi ≤ 1073741823) := Lib.hid (fun h j hj => by
                    have := rng_all (both_zero (HED.out.trans h)).2 j (by rw [HN2.out]; exact hj)
                    exact ⟨by omega, this.2.2.1⟩)
                  have HN30 : Hid (E = 0 → n ≤ 30) := Lib.hid (fun h => by have := snt_len (both_zero (HED.out.trans h)).1; have := HN.out; omega)
                  go_wp2_with fail
                  go_loopw [18, 19, 20, 21, 22, 23, 24] (fun s18 s19 s20 s21 s22 s23 s24 wr => ∃ (i : Nat) (A1 : Option Addr) (k1 c1 : Nat) (B1 : Option Addr) (k2 c2 : Nat), s20 = .int .i64 i ∧ i ≤ n ∧ k1 ≤ i ∧ k2 ≤ i ∧ s18 = .slice A1 k1 c1 ∧ s19 = .slice B1 k2 c2 ∧ Made w wr A1 k1 c1 (if E = 0 then leftL (L.take i) M else []) B1 k2 c2 (if F = 0 then lostRL (leftL (L.take i) M) M now wait else [])) (fun _ _ s20 _ _ _ _ _ => n - (intOf s20).toNat)
                  case atStart => exact ⟨0, none, 0, 0, none, 0, 0, rfl, by omega, by omega, by omega, rfl, rfl, by
                    have e1 : leftL (L.take 0) M = [] := rfl
                    have e2 : lostRL ([] : List Snt) M now wait = [] := rfl
                    rw [e1, e2]
                    have e3 : (if E = 0 then ([] : List Snt) else []) = [] := by split <;> rfl
                    have e4 : (if F = 0 then ([] : List Int) else []) = [] := by split <;> rfl
                    rw [e3, e4]
                    exact ⟨Lst.nil _ _ _, Lst.nil _ _ _, by simp [Value.ownBlock], by simp [Value.ownBlock], rfl, rfl, hs7⟩⟩
                  case round =>
                    obtain ⟨i, A1, k1, c1, B1, k2, c2, rfl, hi, hk1, hk2, rfl, rfl, hM⟩ := hrel
                    have HM := Lib.hid hM
                    have hs := hM.since
                    clear hM
                    by_cases hlt : i < n
                    case neg =>
                      obtain rfl : i = n := by omega
                      have hf : decide ((i : Int) < (i : Int)) = false := by simp
                      have etk : L.take i = L := List.take_of_length_le (by rw [HN.out]; exact Nat.le_refl _)
                      have hM2 := HM.out
                      rw [etk, ← HLR.out, ← HLL.out] at hM2
                      have HM2 := Lib.hid hM2
                      clear hM2 etk
                      go_wp2_with fail
                      go_meet
                      case rel => exact ⟨A1, k1, c1, B1, k2, c2, rfl, rfl, HM2.out⟩
                    have hlt' : (i : Int) < (n : Int) := by omega
                    by_cases hg : E = 0
                    case neg =>
                      have hg' : (E == 0) = false := by simpa using hg
                      have hFn : ¬ F = 0 := fun h => hg (HEF.out h).1
                      have hM2 := HM.out
                      rw [if_neg hg, if_neg hFn] at hM2
                      have e1 : leftR L M = [] := by rw [HLR.out, if_neg hg]
                      have e2 : lostL L M now wait = [] := by rw [HLL.out, if_neg hFn]
                      rw [← e1, ← e2] at hM2
                      have HM2 := Lib.hid hM2
                      clear hM2 e1 e2 hFn hg
                      go_wp2_with fail
                      go_meet
                      case rel => exact ⟨A1, k1, c1, B1, k2, c2, rfl, rfl, HM2.out⟩
                    subst hg
                    obtain ⟨b, off, rfl, hbl, hc⟩ := HR.out.snt (i := i) (by rw [HN.out]; exact hlt)
                    have HC : Hid (∀ wx, Since w wx → wx.cell? ⟨b, off + i * 3, none⟩ = some (.int .i64 (sat L i).n) ∧ wx.cell? ⟨b, off + i * 3 + 1, none⟩ = some (.int .i64 (sat L i).t) ∧ wx.cell? ⟨b, off + i * 3 + 2, none⟩ = some (.int .i64 (sat L i).z)) := Lib.hid (fun wx h => hc wx h i (by rw [HN.out]; exact hlt))
                    obtain ⟨d0, d1, d2⟩ := HC.out wr hs
                    have lb : b < wr.heap.size := Nat.lt_of_lt_of_le hbl hs.le
                    obtain ⟨b1, b2, b3, b4⟩ := HSA.out rfl i hlt
                    have hsnoc := leftL_snoc L M (i := i) (by rw [HN.out]; exact hlt)
                    have hn30 := HN30.out rfl
                    have hM1 := HM.out
                    rw [if_pos rfl] at hM1
                    have HM1 := Lib.hid hM1
                    have HSN := Lib.hid hsnoc
                    clear hc hM1 hsnoc
                    generalize sat L i = sr at *
                    obtain ⟨sn, st, sz⟩ := sr
                    simp only at d0 d1 d2 b1 b2 b3 b4 HC HSN
                    have HCC := Lib.hid HC.out
                    go_wp2_with fail
                    refine (rinR A2 n2 cap2 M sn _ HN2.out (HR2.out.later hs)).mono ?_
                    rintro e w7 ⟨rfl, hb7⟩
                    have hs8 := hs.later hb7
                    have HM7 := Lib.hid (HM1.out.later hb7)
                    clear hb7 d0 d1 d2
                    cases hin : inB M sn with
                    | true =>
                      have e1 : leftL (L.take (i + 1)) M = leftL (L.take i) M := by rw [HSN.out, hin]; simp
                      have HS1 := Lib.hid e1
                      clear hin e1
                      go_wp2_with fail
                      go_roundw
                      case rel => exact ⟨i + 1, A1, k1, c1, B1, k2, c2, by go_num, by omega, by omega, by omega, rfl, rfl, by first | (rw [HS1.out]; exact HM7.out) | (rw [if_pos rfl, HS1.out]; exact HM7.out)⟩
                      case measure => simp [intOf]; omega
                    | false =>
                      have e1 : leftL (L.take (i + 1)) M = leftL (L.take i) M ++ [⟨sn, st, sz⟩] := by rw [HSN.out, hin]; simp
                      have HS1 := Lib.hid e1
                      obtain ⟨d0, d1, d2⟩ := HCC.out w7 hs8
                      have lb7 : b < w7.heap.size := Nat.lt_of_lt_of_le hbl hs8.le
                      have hml : ((leftL (L.take i) M).map sntRow).length = k1 := by rw [List.length_map]; exact HM7.out.ka
                      have HML := Lib.hid hml
                      have HKL := Lib.hid HM7.out.ka
                      clear hin e1 hml
                      repeat ((fail_if_success (with_reducible refine stop_at 24 ?_)); first | (at_builtin; refine wpList_push rfl _ _ 64 rfl 68 3 24 Tryd.elSnt (.slice A1 k1 c1) ((leftL (L.take i) M).map sntRow) rfl (HM7.out.la.alloc _) w7.heap.size 1 [.int .i64 sn, .int .i64 st, .int .i64 sz] rfl rfl (sntRow_one ⟨sn, st, sz⟩).2 (BlockIs.fresh _ _ _) (by rw [HML.out]; omega) ?_; intro q cq w8 hl8 ho8 hq8 hlt8) | go_values | go_skip | go_guarded | go_step | go_upon | go_back | go_simp)
                      rw [HML.out] at hl8
                      have hM8 := HM7.out.pushA ⟨sn, st, sz⟩ hl8 ho8 hq8
                      have hs9 := hM8.since
                      rw [← HS1.out] at hM8
                      have HM8 := Lib.hid hM8
                      clear hl8 ho8 hq8 hlt8 hM8 d0 d1 d2 HM7 HM1 HM hs8
                      by_cases hF0 : F = 0
                      case neg =>
                        have hF' : (F != 0) = true := by simpa using hF0
                        have hM9 := HM8.out
                        rw [if_neg hF0] at hM9
                        have HM9 := Lib.hid hM9
                        have HIF := Lib.hid (show (if F = 0 then lostRL (leftL (L.take (i + 1)) M) M now wait else []) = [] from if_neg hF0)
                        clear hF0 hM9
                        go_wp2_with fail
                        go_roundw
                        case rel => exact ⟨i + 1, some ⟨q, 0, none⟩, k1 + 1, cq, B1, k2, c2, by go_num, by omega, by omega, by omega, by first | rfl | rw [HKL.out], rfl, by rw [HIF.out]; first | exact HM9.out | (rw [if_pos rfl]; exact HM9.out)⟩
                        case measure => simp [intOf]; omega
                      obtain ⟨_, n0, n1⟩ := HEF.out hF0
                      have hF' : (F != 0) = false := by simpa using hF0
                      have hM9 := HM8.out
                      rw [if_pos hF0] at hM9
                      have HM9 := Lib.hid hM9
                      have HIF := Lib.hid (show (if F = 0 then lostRL (leftL (L.take (i + 1)) M) M now wait else []) = lostRL (leftL (L.take (i + 1)) M) M now wait from if_pos hF0)
                      have hbr : lostBR M now wait ⟨sn, st, sz⟩ = (farB M (sn + 3) n2 || (farB M (sn + 1) n2 && decide (wait ≤ now - st))) := by rw [← HN2.out]; rfl
                      have hsn2 := lostRL_snoc (leftL (L.take i) M) ⟨sn, st, sz⟩ M now wait
                      rw [← HS1.out] at hsn2
                      have HBR := Lib.hid hbr
                      have HS2 := Lib.hid hsn2
                      clear hF0 hM9 HM8 hbr hsn2
                      repeat ((fail_if_success (with_reducible refine stop_at 27 ?_)); first | fail | go_values | go_skip | go_guarded | go_step | go_upon | go_back | go_simp)
                      obtain ⟨wq8, rfl⟩ : ∃ wq8 : World, wq8 = w8 := ⟨_, rfl⟩
                      go_cut [22, 23, 24] (fun s22 s23 s24 wx => s22 = .bool (farB M (sn + 3) n2) ∧ s23 = .bool (farB M (sn + 1) n2) ∧ Since wq8 wx)
                      case first =>
                        as_aux_lemma =>
                          go_wp2_with fail
                          go_loopw [22, 23, 24] (fun s22 s23 s24 wr => ∃ j : Nat, s24 = .int .i64 j ∧ j ≤ n2 ∧ s22 = .bool (farB M (sn + 3) j) ∧ s23 = .bool (farB M (sn + 1) j) ∧ Since wq8 wr) (fun _ _ s24 _ => n2 - (intOf s24).toNat)
                          case atStart => exact ⟨0, rfl, by omega, rfl, rfl, Since.refl _⟩
                          case round =>
                            obtain ⟨j, rfl, hj, rfl, rfl, hs10⟩ := hrel
                            by_cases hjl : j < n2
                            case neg =>
                              obtain rfl : j = n2 := by omega
                              have hf : decide ((j : Int) < (j : Int)) = false := by simp
                              go_wp2_with fail
                              go_meet
                              case rel => exact ⟨rfl, rfl, hs10⟩
                            have hjl' : (j : Int) < (n2 : Int) := by omega
                            have hsx := hs9.later hs10
                            obtain ⟨b5, off5, rfl, hbl5, hc5⟩ := HR2.out.rng (i := j) (by rw [HN2.out]; exact hjl)
                            obtain ⟨f0, f1⟩ := hc5 wr hsx j (by rw [HN2.out]; exact hjl)
                            obtain ⟨g0, g1, g2⟩ := HCC.out wr hsx
                            obtain ⟨r0, r1⟩ := HRA.out (by first | rfl | trivial) j hjl
                            have lb5 : b5 < wr.heap.size := Nat.lt_of_lt_of_le hbl5 hsx.le
                            have lb6 : b < wr.heap.size := Nat.lt_of_lt_of_le hbl hsx.le
                            have ha : farB M (sn + 3) (j + 1) = (farB M (sn + 3) j || decide (sn + 3 ≤ (rat M j).hi)) := rfl
                            have hbb : farB M (sn + 1) (j + 1) = (farB M (sn + 1) j || decide (sn < (rat M j).hi)) := by
                              rw [farB]
                              congr 1
                            have HA := Lib.hid ha
                            have HBB := Lib.hid hbb
                            generalize (rat M j).hi = hh at *
                            clear hc5 ha hbb f0
                            cases h1 : farB M (sn + 3) j with
                            | true =>
                              have HA1 := Lib.hid (show farB M (sn + 3) (j + 1) = true by rw [HA.out, h1]; rfl)
                              cases h2 : farB M (sn + 1) j with
                              | true =>
                                have HB1 := Lib.hid (show farB M (sn + 1) (j + 1) = true by rw [HBB.out, h2]; rfl)
                                clear h1 h2
                                go_wp2_with fail
                                go_quiet (fail)
                                go_wp2_with fail
                                go_quiet (fail)
                                go_wp2_with fail
                                go_roundw
                                case rel => exact ⟨j + 1, by go_num, by omega, by rw [HA1.out], by rw [HB1.out], (by refine Since.out ?_; repeat (first | with_reducible assumption | with_reducible exact Since.refl _ | with_reducible refine Since.later ?_ (by with_reducible assumption) | with_reducible refine Since.only ?_ (by with_reducible assumption) (by first | assumption | omega | (simp; done) | (simp; omega)) | with_reducible refine Since.alloc ?_ _ | with_reducible refine Since.drewN ?_ _ | with_reducible refine Since.drew ?_ | with_reducible refine Since.set ?_ (by first | assumption | omega | (simp; done) | (simp; omega)) _))⟩
                                case measure => simp [intOf]; omega
                              | false =>
                                have HB1 := Lib.hid (show farB M (sn + 1) (j + 1) = decide (sn < hh) by rw [HBB.out, h2]; rfl)
                                clear h1 h2
                                go_wp2_with fail
                                go_quiet (fail)
                                go_wp2_with fail
                                go_quiet (fail)
                                go_wp2_with fail
                                go_roundw
                                case rel => exact ⟨j + 1, by go_num, by omega, by rw [HA1.out], by rw [HB1.out], (by refine Since.out ?_; repeat (first | with_reducible assumption | with_reducible exact Since.refl _ | with_reducible refine Since.later ?_ (by with_reducible assumption) | with_reducible refine Since.only ?_ (by with_reducible assumption) (by first | assumption | omega | (simp; done) | (simp; omega)) | with_reducible refine Since.alloc ?_ _ | with_reducible refine Since.drewN ?_ _ | with_reducible refine Since.drew ?_ | with_reducible refine Since.set ?_ (by first | assumption | omega | (simp; done) | (simp; omega)) _))⟩
                                case measure => simp [intOf]; omega
                            | false =>
                              have HA1 := Lib.hid (show farB M (sn + 3) (j + 1) = decide (sn + 3 ≤ hh) by rw [HA.out, h1]; rfl)
                              cases h2 : farB M (sn + 1) j with
                              | true =>
                                have HB1 := Lib.hid (show farB M (sn + 1) (j + 1) = true by rw [HBB.out, h2]; rfl)
                                clear h1 h2
                                go_wp2_with fail
                                go_quiet (fail)
                                go_wp2_with fail
                                go_quiet (fail)
                                go_wp2_with fail
                                go_roundw
                                case rel => exact ⟨j + 1, by go_num, by omega, by rw [HA1.out], by rw [HB1.out], (by refine Since.out ?_; repeat (first | with_reducible assumption | with_reducible exact Since.refl _ | with_reducible refine Since.later ?_ (by with_reducible assumption) | with_reducible refine Since.only ?_ (by with_reducible assumption) (by first | assumption | omega | (simp; done) | (simp; omega)) | with_reducible refine Since.alloc ?_ _ | with_reducible refine Since.drewN ?_ _ | with_reducible refine Since.drew ?_ | with_reducible refine Since.set ?_ (by first | assumption | omega | (simp; done) | (simp; omega)) _))⟩
                                case measure => simp [intOf]; omega
                              | false =>
                                have HB1 := Lib.hid (show farB M (sn + 1) (j + 1) = decide (sn < hh) by rw [HBB.out, h2]; rfl)
                                clear h1 h2
                                go_wp2_with fail
                                go_quiet (fail)
                                go_wp2_with fail
                                go_quiet (fail)
                                go_wp2_with fail
                                go_roundw
                                case rel => exact ⟨j + 1, by go_num, by omega, by rw [HA1.out], by rw [HB1.out], (by refine Since.out ?_; repeat (first | with_reducible assumption | with_reducible exact Since.refl _ | with_reducible refine Since.later ?_ (by with_reducible assumption) | with_reducible refine Since.only ?_ (by with_reducible assumption) (by first | assumption | omega | (simp; done) | (simp; omega)) | with_reducible refine Since.alloc ?_ _ | with_reducible refine Since.drewN ?_ _ | with_reducible refine Since.drew ?_ | with_reducible refine Since.set ?_ (by first | assumption | omega | (simp; done) | (simp; omega)) _))⟩
                                case measure => simp [intOf]; omega
                      case rest =>
                        as_aux_lemma =>
                          obtain ⟨wz, rfl⟩ : ∃ wz : World, wz = wc := ⟨_, rfl⟩
                          obtain ⟨rfl, rfl, hs10⟩ := hcut
                          have hsx := hs9.later hs10
                          have HM10 := Lib.hid (HM9.out.later hs10)
                          obtain ⟨g0, g1, g2⟩ := HCC.out wz hsx
                          have lb6 : b < wz.heap.size := Nat.lt_of_lt_of_le hbl hsx.le
                          have hml : ((lostRL (leftL (L.take i) M) M now wait).map intRow).length = k2 := by rw [List.length_map]; exact HM10.out.kb
                          have HML2 := Lib.hid hml
                          have HKL2 := Lib.hid HM10.out.kb
                          have HPUSH : Hid (lostBR M now wait ⟨sn, st, sz⟩ = true → (if F = 0 then lostRL (leftL (L.take (i + 1)) M) M now wait else []) = lostRL (leftL (L.take i) M) M now wait ++ [sn]) := Lib.hid (fun h => by rw [HIF.out, HS2.out, h]; simp)
                          have HKEEP : Hid (lostBR M now wait ⟨sn, st, sz⟩ = false → (if F = 0 then lostRL (leftL (L.take (i + 1)) M) M now wait else []) = lostRL (leftL (L.take i) M) M now wait) := Lib.hid (fun h => by rw [HIF.out, HS2.out, h]; simp)
                          generalize farB M (sn + 3) n2 = fa at *
                          generalize farB M (sn + 1) n2 = ab at *
                          clear hml hs10 HM9
                          have hpush : fa = true ∨ (fa = false ∧ ab = true ∧ wait ≤ now - st) ∨ (fa = false ∧ ab = true ∧ ¬ wait ≤ now - st) ∨ (fa = false ∧ ab = false) := by
                            cases fa <;> cases ab <;> simp <;> omega
                          rcases hpush with rfl | ⟨rfl, rfl, hw⟩ | ⟨rfl, rfl, hw⟩ | ⟨rfl, rfl⟩
                          · have S := Lib.hid (HPUSH.out (by rw [HBR.out]; rfl))
                            go_wp2_with (at_builtin; refine wpList_push rfl _ _ 33 rfl 3 1 8 Tryd.elInt (.slice B1 k2 c2) ((lostRL (leftL (L.take i) M) M now wait).map intRow) rfl (HM10.out.lb.alloc _) wz.heap.size 1 [.int .i64 sn] rfl rfl (intRow_one sn).2 (BlockIs.fresh _ _ _) (by rw [HML2.out]; omega) ?_; intro q9 cq9 w9 hl9 ho9 hq9 hlt9)
                            rw [HML2.out] at hl9
                            have hM11 := HM10.out.pushB sn hl9 ho9 hq9
                            rw [← S.out] at hM11
                            have HM11 := Lib.hid hM11
                            clear hM11 hl9 ho9 hq9 hlt9 g0 g1 g2
                            go_roundw
                            case rel => exact ⟨i + 1, some ⟨q, 0, none⟩, k1 + 1, cq, some ⟨q9, 0, none⟩, k2 + 1, cq9, by go_num, by omega, by omega, by omega, by first | rfl | rw [HKL.out], by first | rfl | rw [HKL2.out], by first | exact HM11.out | (rw [if_pos rfl]; exact HM11.out)⟩
                            case measure => simp [intOf]; omega
                          · have S := Lib.hid (HPUSH.out (by rw [HBR.out]; simpa using hw))
                            go_wp2_with (at_builtin; refine wpList_push rfl _ _ 33 rfl 3 1 8 Tryd.elInt (.slice B1 k2 c2) ((lostRL (leftL (L.take i) M) M now wait).map intRow) rfl (HM10.out.lb.alloc _) wz.heap.size 1 [.int .i64 sn] rfl rfl (intRow_one sn).2 (BlockIs.fresh _ _ _) (by rw [HML2.out]; omega) ?_; intro q9 cq9 w9 hl9 ho9 hq9 hlt9)
                            rw [HML2.out] at hl9
                            have hM11 := HM10.out.pushB sn hl9 ho9 hq9
                            rw [← S.out] at hM11
                            have HM11 := Lib.hid hM11
                            clear hM11 hl9 ho9 hq9 hlt9 g0 g1 g2
                            go_roundw
                            case rel => exact ⟨i + 1, some ⟨q, 0, none⟩, k1 + 1, cq, some ⟨q9, 0, none⟩, k2 + 1, cq9, by go_num, by omega, by omega, by omega, by first | rfl | rw [HKL.out], by first | rfl | rw [HKL2.out], by first | exact HM11.out | (rw [if_pos rfl]; exact HM11.out)⟩
                            case measure => simp [intOf]; omega
                          · have S := Lib.hid (HKEEP.out (by rw [HBR.out]; simpa using hw))
                            have hw' : decide (wait ≤ now - st) = false := by simpa using hw
                            clear hw
                            go_wp2_with fail
                            go_roundw
                            case rel => exact ⟨i + 1, some ⟨q, 0, none⟩, k1 + 1, cq, B1, k2, c2, by go_num, by omega, by omega, by omega, by first | rfl | rw [HKL.out], rfl, by rw [S.out]; first | exact HM10.out | (rw [if_pos rfl]; exact HM10.out)⟩
                            case measure => simp [intOf]; omega
                          · have S := Lib.hid (HKEEP.out (by rw [HBR.out]; rfl))
                            go_wp2_with fail
                            go_roundw
                            case rel => exact ⟨i + 1, some ⟨q, 0, none⟩, k1 + 1, cq, B1, k2, c2, by go_num, by omega, by omega, by omega, by first | rfl | rw [HKL.out], rfl, by rw [S.out]; first | exact HM10.out | (rw [if_pos rfl]; exact HM10.out)⟩
                            case measure => simp [intOf]; omega
              case rest =>
                as_aux_lemma =>
                  obtain ⟨wo, rfl⟩ : ∃ wo : World, wo = wc := ⟨_, rfl⟩
                  obtain ⟨A1, k1, c1, B1, k2, c2, rfl, rfl, hM⟩ := hcut
                  have HM := Lib.hid hM
                  have hs8 := hM.since
                  have hka := hM.ka
                  have hkb := hM.kb
                  have HKA := Lib.hid hka
                  have HKB := Lib.hid hkb
                  clear hM hs7 hka hkb
                  go_wp2_with fail
                  refine (sLeft A n cap L A2 n2 cap2 M _ HN.out (HR.out.later hs8) HN2.out HB2.out (HR2.out.later hs8)).mono ?_
                  rintro e w9 ⟨A3, c3, rfl, hr9, hb9⟩
                  rw [HED.out]
                  rw [HKA.out] at hr9 ⊢
                  have HR9 := Lib.hid hr9
                  have hs9 := hs8.later hb9
                  have HM9 := Lib.hid (HM.out.later hb9)
                  clear hr9 hb9
                  go_wp2_with fail
                  refine (same_yes E _ (HET.out.later hs9)).mono ?_
                  rintro e w10 ⟨rfl, hb10⟩
                  have hs10 := hs9.later hb10
                  go_wp2_with fail
                  refine (sntEq A3 A1 c3 c1 k1 (leftR L M) _ HKA.out (HR9.out.later hb10) (Rd.of_lst (HM9.out.later hb10).la)).mono ?_
                  rintro e w11 ⟨rfl, hb11⟩
                  have hs11 := hs10.later hb11
                  have HM11 := Lib.hid ((HM9.out.later hb10).later hb11)
                  clear hs9 hs10 hb10 hb11 hs8
                  go_wp2_with fail
                  refine (sLost A n cap L A2 n2 cap2 M now wait _ HN.out (HR.out.later hs11) HN2.out HB2.out (HR2.out.later hs11)).mono ?_
                  rintro e w12 ⟨A4, c4, rfl, hl12, hb12⟩
                  rw [HFD.out]
                  rw [HKB.out] at hl12 ⊢
                  have HL12 := Lib.hid hl12
                  have hs12 := hs11.later hb12
                  have HM12 := Lib.hid (HM11.out.later hb12)
                  clear hl12 hb12 hs11
                  go_wp2_with fail
                  refine (same_yes F _ (HET.out.later hs12)).mono ?_
                  rintro e w13 ⟨rfl, hb13⟩
                  have hs13 := hs12.later hb13
                  go_wp2_with fail
                  refine (intEq A4 B1 c4 c2 k2 (lostL L M now wait) _ HKB.out (HL12.out.later hb13) (HM12.out.later hb13).lb).mono ?_
                  rintro e w14 ⟨rfl, hb14⟩
                  have hs14 := hs13.later hb14
                  clear hs12 hs13 hb13 hb14
                  go_wp2_with fail
                  go_ret
                  exact ⟨by first | rfl | simp, (by refine Since.out ?_; repeat (first | with_reducible assumption | with_reducible exact Since.refl _ | with_reducible refine Since.later ?_ (by with_reducible assumption) | with_reducible refine Since.only ?_ (by with_reducible assumption) (by first | assumption | omega | (simp; done) | (simp; omega)) | with_reducible refine Since.alloc ?_ _ | with_reducible refine Since.drewN ?_ _ | with_reducible refine Since.drew ?_ | with_reducible refine Since.set ?_ (by first | assumption | omega | (simp; done) | (simp; omega)) _))⟩

/-! the row -/
theorem own : ownKnob Tryd.prog.godebug = none := by kernel_rfl
theorem laidOut : laidOutB Tryd.prog = true := by kernel_rfl
set_option maxRecDepth 100000 in
theorem contract (H : Type) (enc : TypeId × Value → H) (W : World) (base : Nat) (args : Array Value) (ds gs : List (DataW H)) (before : List MemPlace)
    (hval : ∀ (j : Nat) t v, Tryd.f7.params[j]? = some t → args[j]? = some v → Value.okWide Tryd.prog W .any base t v)
    (hW : DataW.Whole enc Tryd.prog Tryd.f7.params.toList Rows.lossTellsSpec.vars false W args.toList ds gs before) (hL : laidMetH Tryd.prog Rows.lossTellsRow.laid W) :
    Calls Tryd.prog 7 args W fun e W' => ∃ v, e = .returned v ∧ Rows.lossTellsSpec.post enc Tryd.prog Tryd.f7 false true false false W args v W' := by
  have hW' := hW
  obtain ⟨p, q, hA0, hV, rfl, hfz, hnd⟩ := hW
  have hA : DataW.TrodAll enc Tryd.prog W 0 (fun _ => true) true Tryd.f7.params.toList args.toList ds p := hA0
  rw [Tryd.params7] at hA hval
  obtain ⟨v0, vs0, d0, ds0, p0, q0, hargs, rfl, rfl, h0, r0⟩ := trodAll_cons hA
  obtain ⟨v1, vs1, d1, ds1, p1, q1, rfl, rfl, rfl, h1, r1⟩ := trodAll_cons r0
  obtain ⟨v2, vs2, d2, ds2, p2, q2, rfl, rfl, rfl, h2, r2⟩ := trodAll_cons r1
  obtain ⟨v3, vs3, d3, ds3, p3, q3, rfl, rfl, rfl, h3, r3⟩ := trodAll_cons r2
  obtain ⟨rfl, rfl, rfl⟩ := trodAll_nil r3
  obtain rfl : args = #[v0, v1, v2, v3] := by cases args; simp_all
  obtain ⟨rfl, rfl⟩ := trodVars_none hV
  obtain ⟨a0, len0, cap0, rfl⟩ := okWide_slice Tryd.underlying64 (hval 0 64 v0 rfl rfl)
  have k0 := h0
  have lt0 : ∀ x ∈ p0, x.block < W.heap.size := by obtain ⟨m, hm⟩ := k0; exact DataW.trod_lt m _ _ _ hm
  obtain ⟨z0, w0⟩ : ∃ zs, SntsIn W (.slice a0 len0 cap0) zs := by
    obtain ⟨fuel, hf⟩ := h0
    exact sntsIn_open Tryd.underlying64 Tryd.underlying68 (by kernel_rfl) rfl rfl rfl (by kernel_rfl) (by kernel_rfl) (by kernel_rfl) Tryd.underlying3 Tryd.underlying3 Tryd.underlying3 hf
  obtain ⟨a1, len1, cap1, rfl⟩ := okWide_slice Tryd.underlying35 (hval 1 35 v1 rfl rfl)
  have k1 := h1
  have lt1 : ∀ x ∈ p1, x.block < W.heap.size := by obtain ⟨m, hm⟩ := k1; exact DataW.trod_lt m _ _ _ hm
  obtain ⟨z1, w1⟩ : ∃ zs, RngsIn W (.slice a1 len1 cap1) zs := by
    obtain ⟨fuel, hf⟩ := h1
    exact rngsIn_open Tryd.underlying35 Tryd.underlying74 (by kernel_rfl) rfl rfl (by kernel_rfl) (by kernel_rfl) Tryd.underlying3 Tryd.underlying3 hf
  obtain ⟨a2, rfl, rfl, rfl, w2⟩ := open_int Tryd.underlying3 (hval 2 3 v2 rfl rfl) h2
  obtain ⟨a3, rfl, rfl, rfl, w3⟩ := open_int Tryd.underlying3 (hval 3 3 v3 rfl rfl) h3
  have lw := laidWalk hL
  refine (walk (.slice a0 len0 cap0) z0 (.slice a1 len1 cap1) z1 a2 a3 W w0 w1 w2 w3 lw).mono fun e W' ⟨he, bel⟩ => ?_
  subst he
  exact ⟨_, rfl, _, _, _, [], _, [], hW', trodAll_mk1 (shut_bool Tryd.underlying4 _), (trodAll_cons_mk (Below.trod laidOut (by kernel_rfl) (of_decide_eq_true (by kernel_rfl)) k0 bel lt0) (trodAll_cons_mk (Below.trod laidOut (by kernel_rfl) (of_decide_eq_true (by kernel_rfl)) k1 bel lt1) (trodAll_cons_mk (shut_int Tryd.underlying3 w2) (trodAll_cons_mk (shut_int Tryd.underlying3 w3) trodAll_mk0)))), rfl, bel.frame _, fun h => by cases h⟩

theorem reads (os : Os) {H : Type} (enc : TypeId × Value → H) : ∃ places, DataW.whole enc Tryd.prog ((laidWorld os).forCall (fun _ _ => 0) ⟨#[], #[.slice none 0 0, .slice none 0 0, .int .i64 0, .int .i64 0], []⟩).memory Tryd.f7.params.toList Rows.lossTellsSpec.vars false (#[.slice none 0 0, .slice none 0 0, .int .i64 0, .int .i64 0] : Array Value).toList 8 = some ([.nil, .nil, .lit (.int .i64 0), .lit (.int .i64 0)], [], places) :=
  ⟨[], by kernel_rfl⟩
theorem laid_met (os : Os) : laidMetH Tryd.prog Rows.lossTellsRow.laid ((laidWorld os).forCall (fun _ _ => 0) ⟨#[], #[.slice none 0 0, .slice none 0 0, .int .i64 0, .int .i64 0], []⟩).memory := laidMetW os _

set_option maxRecDepth 100000 in
theorem lifted (os : Os) (started : os.Started) (H : Type) (enc : TypeId × Value → H) (F : Stop.Interp) :
    ReturnsInHanded {} Tryd.checked os 7 .any ((OpenSpec.ofChange Rows.lossTellsSpec).preRow enc Tryd.prog Tryd.f7 Rows.lossTellsRow.domain false Rows.lossTellsRow.laid) (((OpenSpec.ofChange Rows.lossTellsSpec).at F).post enc Tryd.prog Tryd.f7 false true false false) := by
  obtain ⟨places, hx⟩ := reads os enc
  refine returnsInHanded_of_row (C := Tryd.checked) (s := OpenSpec.ofChange Rows.lossTellsSpec) own started (by kernel_rfl) Tryd.func7
    (witness_row_at (enc := enc) (C := Tryd.checked) false (laidWorld os) #[.slice none 0 0, .slice none 0 0, .int .i64 0, .int .i64 0] rfl (by kernel_rfl) (by kernel_rfl) (by kernel_rfl)
      (OpenSpec.preRow_of_cond 8 hx (by kernel_rfl) (fun k hk => by cases hk) (by kernel_rfl) (laid_met os))) ?_
  intro W base args ds gs before hval hW _ _ _ hL _ _
  exact contract H enc W base args ds gs before hval hW hL

theorem said : Rows.LossTellsSaid :=
  OpenClaim.holds_of_cond 7 Tryd.f7 rfl rfl rfl rfl rfl rfl rfl ⟨rfl, rfl, rfl, rfl, rfl⟩ rfl rfl rfl rfl rfl (by kernel_rfl) Tryd.func7 (by kernel_rfl)
    (of_decide_eq_true (by kernel_rfl)) (by unfold Func.isWrapper; first | (rw [if_pos (by decide +kernel)]; kernel_rfl) | (rw [if_neg (by decide +kernel)]; exact ⟨rfl, rfl⟩))
    (fun os started H enc _ F => by rw [OpenClaim.pre_eq_preRow]; exact lifted os started H enc F)

theorem plain (f : FuncId) (fn : Func) (hf : Tryd.pinned.checked.prog.funcNamed "wanderwire/wirelaw2.LossTells" = some f) (hfn : Tryd.pinned.checked.prog.funcs[f]? = some fn) :
    true = Tryd.pinned.checked.prog.looks [] ∧ ∀ (j : Nat) t, fn.params[j]? = some t → Tryd.pinned.checked.prog.wantsStandIn t = false := by
  obtain rfl : f = 7 := Option.some.inj ((show Tryd.prog.funcNamed "wanderwire/wirelaw2.LossTells" = some 7 by kernel_rfl).symm.trans hf) |>.symm
  obtain rfl : fn = Tryd.f7 := (Option.some.inj (Tryd.func7.symm.trans hfn)).symm
  refine ⟨by kernel_rfl, fun j t ht => ?_⟩
  rw [Tryd.params7] at ht
  have ht' := Array.mem_of_getElem? ht
  have hall : (([64, 35, 3, 3] : List Nat).all fun t => !Tryd.prog.wantsStandIn t) = true := by kernel_rfl
  have hq := List.all_eq_true.1 hall t (by simpa using ht')
  have hq2 : Tryd.prog.wantsStandIn t = false := by simpa using hq
  exact hq2

theorem card : Rows.LossTellsCardSaid :=
  Claim7.holds_tied_plain_at .later [] _ _ _ _ said (fun _ h => by cases h) (by kernel_rfl) (fun _ h => by cases h) lossTells_row_tie rfl ⟨rfl, rfl⟩ (by kernel_rfl) rfl plain (by kernel_rfl)
#print axioms card
end Go.Proofs.YtbmfknnbpnllkaaDoor.lossTells
