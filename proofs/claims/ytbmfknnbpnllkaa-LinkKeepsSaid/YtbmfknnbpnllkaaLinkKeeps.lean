/- LinkKeeps: for every texts and steps the law returns true: what comes was sent, whatever is lost and doubled; in order, if nothing is. No condition. -/
import Derived.Test.YtbmfknnbpnllkaaBase
import Derived.Test.YtbmfknnbpnllkaaErrV
import Derived.Test.YtbmfknnbpnllkaaOnly
import Derived.Test.YtbmfknnbpnllkaaSince
import Derived.Test.YtbmfknnbpnllkaaRules
import Derived.Test.YtbmfknnbpnllkaaOut
import Derived.Test.YtbmfknnbpnllkaaLst
import Derived.Test.YtbmfknnbpnllkaaDelG
import Derived.Test.YtbmfknnbpnllkaaLnk
import Derived.Test.YtbmfknnbpnllkaaGive
import Derived.Test.YtbmfknnbpnllkaaIns
import Derived.Test.YtbmfknnbpnllkaaLnkLaw
import Derived.Deep.DeepCutAuto
import Derived.Test.YtbmfknnbpnllkaaRows
import Derived.WalkKit
import Derived.ProofKit
import Derived.OpenShut
import Derived.ShutString
import Derived.ChangeOld
import Derived.Below
import Derived.Lib.SmallJoins
import Derived.Deep.Slices
import Derived.Deep.Matrix
import Derived.Deep.Strs
namespace Go.Proofs.Ytbmfknnbpnllkaa.linkKeeps
open Go.ChangeShapes Go.WideShapes Go.ChangeAt Go.RowKit
open Go.ChangeMaps (open_string shut_string)
set_option linter.unusedVariables false

theorem errV_1 : errV 1 = .iface 67 (.int .i64 1) := rfl
theorem errV_4 : errV 4 = .iface 67 (.int .i64 4) := rfl
/-- an error's test, by its number -/
theorem send_x : sendE [] 1 ⟨#[120]⟩ = 0 ∧ sendL [] 1 ⟨#[120]⟩ = [⟨1, ⟨#[120]⟩⟩] := ⟨by decide, by unfold sendL; rw [if_pos (by decide)]; rfl⟩
theorem twice_x : twiceE [⟨1, ⟨#[120]⟩⟩] 0 = 0 ∧ twiceL [⟨1, ⟨#[120]⟩⟩] 0 = [⟨1, ⟨#[120]⟩⟩, ⟨1, ⟨#[120]⟩⟩] := ⟨by decide, by unfold twiceL; rw [if_pos (by decide)]; rfl⟩
theorem give_x : giveE [⟨1, ⟨#[120]⟩⟩, ⟨1, ⟨#[120]⟩⟩] 1 = 0 ∧ giveD [⟨1, ⟨#[120]⟩⟩, ⟨1, ⟨#[120]⟩⟩] 1 = ⟨1, ⟨#[120]⟩⟩ ∧ giveL [⟨1, ⟨#[120]⟩⟩, ⟨1, ⟨#[120]⟩⟩] 1 = [⟨1, ⟨#[120]⟩⟩] := by
  refine ⟨by decide, by unfold giveD; rw [if_pos (by decide)]; rfl, by unfold giveL; rw [if_pos (by decide)]; rfl⟩

set_option maxRecDepth 100000 in
set_option maxHeartbeats 3200000 in
theorem walk (v0 : Value) (T : List ByteArray) (v1 : Value) (Z : List (List Int)) (w : World) (w0 : StrsIn w v0 T) (w1 : IntRowsIn w v1 Z) :
    Calls Try.prog 4 #[v0, v1] w fun e w' => e = .returned (.bool true) ∧ Below w.heap.size w w' := by
  obtain ⟨A, cap, rfl, hle0, hm0, hc⟩ := w1
  obtain ⟨hS, A2, cap2, rfl, hle2, hm2, hc2⟩ := w0
  unfold maxLen at hm0 hm2
  have hZ : Z.length ≤ 9223372036854775807 := by omega
  have hT0 : T.length ≤ 9223372036854775807 := by omega
  have HC := Lib.hid hc
  have HC2 := Lib.hid hc2
  have HS := Lib.hid hS
  clear hc hc2 hS
  have hX : (⟨#[120]⟩ : ByteArray).size = 1 := rfl
  go_enter Try.func4, Try.ntmps4
  go_wp2_with fail
  refine (knew _).mono ?_
  rintro e w1 ⟨rfl, hk1, hb1⟩
  have HK := Lib.hid (show Hold w w1 w.heap.size (.slice none 0 0) (.slice none 0 0) [] [] from ⟨hk1, Lst.nil _ _ _, by simp [Value.ownBlock], by simp [Value.ownBlock], hb1⟩)
  clear hk1 hb1
  go_wp2_with fail
  refine (ksend _ _ _ 1 ⟨#[120]⟩ _ HK.out.kz (by rw [hX]; omega)).mono ?_
  rintro e w2 ⟨rfl, h2⟩
  rw [send_x.1, errV_zero]
  rw [send_x.2] at h2
  obtain ⟨v2, hK2⟩ := HK.out.stepK h2
  have HK2 := Lib.hid hK2
  clear h2 hK2 HK
  go_wp2_with fail
  refine (ktwice _ _ _ 0 _ HK2.out.kz).mono ?_
  rintro e w3 ⟨rfl, h3⟩
  rw [twice_x.1, errV_zero]
  rw [twice_x.2] at h3
  obtain ⟨v3, hK3⟩ := HK2.out.stepK h3
  have HK3 := Lib.hid hK3
  clear h3 hK3 HK2
  go_wp2_with fail
  refine (kgive _ _ _ 1 _ HK3.out.kz).mono ?_
  rintro e w4 ⟨rfl, h4⟩
  rw [give_x.1, give_x.2.1, errV_zero]
  rw [give_x.2.2] at h4
  obtain ⟨v4, hK4⟩ := HK3.out.stepK h4
  have HK4 := Lib.hid hK4
  clear h4 hK4 HK3
  go_wp2_with (go_at_call 16; refine (kcount _ _ _ _ HK4.out.kz).mono ?_; rintro e w2 ⟨rfl, rfl⟩)
  refine (knew _).mono ?_
  rintro e w5 ⟨rfl, hk5, hb5⟩
  have hs4 := HK4.out.since
  have hs4le := hs4.le
  have HK5 := Lib.hid (show Hold w w5 w4.heap.size (.slice none 0 0) (.slice none 0 0) [] [] from ⟨hk5, Lst.nil _ _ _, by simp [Value.ownBlock]; omega, by simp [Value.ownBlock], hs4.later hb5⟩)
  clear hk5 hb5 HK4 hs4 hs4le
  generalize w4.heap.size = g at *
  repeat ((fail_if_success (with_reducible refine stop_at 9 ?_)); first | fail | go_values | go_skip | go_guarded | go_step | go_upon | go_back | go_simp)
  go_cut [12, 13] (fun s12 s13 wx => ∃ (v : Value) (A : Option Addr) (c : Nat) (L : List Let) (S : List ByteArray), s12 = .slice A S.length c ∧ Hold w wx g v (.slice A S.length c) L S ∧ L.map Let.b = S ∧ S.length ≤ 30)
  case first =>
    as_aux_lemma =>
      go_wp2_with fail
      go_loopw [12, 13] (fun s12 s13 wr => ∃ (k n : Nat) (v : Value) (A : Option Addr) (c : Nat) (L : List Let) (S : List ByteArray), s13 = .int .i64 k ∧ k ≤ 30 ∧ s12 = .slice A n c ∧ Hid (n = S.length) ∧ Hold w wr g v (.slice A n c) L S ∧ Hid (L.map Let.b = S) ∧ L.length ≤ k) (fun _ s13 _ => 30 - (intOf s13).toNat)
      case atStart => exact ⟨0, 0, _, none, 0, [], [], rfl, by omega, rfl, Lib.hid rfl, HK5.out, Lib.hid rfl, by simp⟩
      case round =>
        obtain ⟨k, n, v, Av, c, L, S, rfl, hk, rfl, hn, hH, hLS, hLk⟩ := hrel
        have HH := Lib.hid hH
        clear hH
        by_cases hlen : k < T.length
        case neg =>
          have hlen' : decide ((k : Int) < (T.length : Int)) = false := by simp; omega
          go_wp2_with fail
          go_meet
          case rel => exact ⟨v, Av, c, L, S, by rw [← hn.out], by rw [← hn.out]; exact HH.out, hLS.out, by rw [← hLS.out, List.length_map]; omega⟩
        by_cases h30 : k < 30
        case neg =>
          have hlen' : (k : Int) < (T.length : Int) := by omega
          have h30' : decide ((k : Int) < 30) = false := by simp; omega
          go_wp2_with fail
          go_meet
          case rel => exact ⟨v, Av, c, L, S, by rw [← hn.out], by rw [← hn.out]; exact HH.out, hLS.out, by rw [← hLS.out, List.length_map]; omega⟩
        have hlen' : (k : Int) < (T.length : Int) := by omega
        have h30' : (k : Int) < 30 := by omega
        obtain ⟨b2, off2, rfl, hlt2, hc2⟩ := HC2.out (by rintro rfl; simp at hlen)
        have ct : wr.cell? ⟨b2, off2 + k, none⟩ = some (.string (sth T k)) := HH.out.since.cell hlt2 (hc2 k hlen)
        have HCT : Hid (∀ wx, Since w wx → wx.cell? ⟨b2, off2 + k, none⟩ = some (.string (sth T k))) := Lib.hid (fun wx h => h.cell hlt2 (hc2 k hlen))
        have hsz := HS.out k
        unfold maxLen at hsz
        clear hc2
        generalize sth T k = d at *
        have hwho : whoB ((k : Int) % 2) = true := by
          unfold whoB
          rcases (by omega : (k : Int) % 2 = 0 ∨ (k : Int) % 2 = 1) with h | h <;> rw [h] <;> decide
        go_wp2_with fail
        refine (ksend g v L ((k : Int) % 2) d _ HH.out.kz (by omega)).mono ?_
        rintro e w6 ⟨rfl, h6⟩
        obtain ⟨v6, hH6⟩ := HH.out.stepK h6
        have HH6 := Lib.hid hH6
        have ct6 := HCT.out _ hH6.since
        clear h6 hH6
        by_cases h200 : 200 < d.size
        · have E : sendE L ((k : Int) % 2) d = 4 := by unfold sendE; rw [if_pos hwho, if_pos (Or.inr h200)]
          have EL : sendL L ((k : Int) % 2) d = L := by unfold sendL; rw [E, if_neg (by decide)]
          have h200' : decide ((d.size : Int) ≤ 200) = false := by simp; omega
          rw [E, errV_4]
          rw [EL] at HH6
          clear E EL h200
          go_wp2_with fail
          go_roundw
          case rel => exact ⟨k + 1, n, v6, Av, c, L, S, by go_num, by omega, rfl, hn, HH6.out, hLS, by omega⟩
          case measure => simp [intOf]; omega
        · have E : sendE L ((k : Int) % 2) d = 0 := by unfold sendE; rw [if_pos hwho, if_neg (by omega)]
          have EL : sendL L ((k : Int) % 2) d = L ++ [⟨(k : Int) % 2, d⟩] := by unfold sendL; rw [E, if_pos rfl]
          rw [E, errV_zero]
          rw [EL] at HH6
          have hml : (S.map strRow).length = n := by rw [List.length_map]; exact hn.out.symm
          have HML := Lib.hid hml
          have hn100 : n ≤ 100 := by have := hn.out; rw [← hLS.out, List.length_map] at this; omega
          clear E EL h200 hml
          go_wp2_with (at_builtin; refine wpList_push rfl _ _ 35 rfl 9 1 16 Try.elStr (.slice Av n c) (S.map strRow) rfl (HH6.out.ls.alloc _) w6.heap.size 1 [.string d] rfl rfl (strRow_one d).2 (BlockIs.fresh _ _ _) (by rw [HML.out]; omega) ?_; intro q cq w7 hl7 ho7 hq7 hlt7)
          rw [HML.out] at hl7
          have hH7 := HH6.out.push (s := d) hl7 ho7 hq7
          have HH7 := Lib.hid hH7
          clear hH7 hl7 ho7 hq7 hlt7
          go_roundw
          case rel => exact ⟨k + 1, n + 1, v6, some ⟨q, 0, none⟩, cq, _, _, by go_num, by omega, by rw [← hn.out], Lib.hid (by rw [List.length_append, hn.out]; rfl), HH7.out, Lib.hid (by rw [List.map_append, hLS.out]; rfl), by rw [List.length_append]; simp; omega⟩
          case measure => simp [intOf]; omega
  case rest =>
    as_aux_lemma =>
      obtain ⟨wo, rfl⟩ : ∃ wo : World, wo = wc := ⟨_, rfl⟩
      obtain ⟨v, Av, cv, L, S, rfl, hH, hLS, hS30⟩ := hcut
      have HH0 := Lib.hid hH
      have HKP0 := Lib.hid (Keep.start hLS)
      have hL40 : L.length ≤ 40 := hH.kz.few
      clear hH hLS HK5
      repeat ((fail_if_success (with_reducible refine stop_at 17 ?_)); first | fail | go_values | go_skip | go_guarded | go_step | go_upon | go_back | go_simp)
      go_cut [14, 15, 16] (fun s14 s15 s16 wx => ∃ (v : Value) (L : List Let) (ch : Bool), s14 = .bool ch ∧ Hold w wx g v (.slice Av S.length cv) L S ∧ Keep S L ch 0)
      case first =>
        as_aux_lemma =>
          go_wp2_with fail
          go_loopw [14, 15, 16] (fun s14 s15 s16 wr => ∃ (k : Nat) (v : Value) (L : List Let) (ch : Bool), s15 = .int .i64 k ∧ k ≤ 30 ∧ s14 = .bool ch ∧ Hold w wr g v (.slice Av S.length cv) L S ∧ Keep S L ch 0) (fun _ s15 _ _ => 30 - (intOf s15).toNat)
          case atStart => exact ⟨0, v, L, false, rfl, by omega, rfl, HH0.out, HKP0.out⟩
          case round =>
            obtain ⟨k, v, L, ch, rfl, hk, rfl, hH, hKP⟩ := hrel
            have HH := Lib.hid hH
            have HKP := Lib.hid hKP
            clear hH hKP HH0 HKP0
            by_cases hlen : k < Z.length
            case neg =>
              have hlen' : decide ((k : Int) < (Z.length : Int)) = false := by simp; omega
              go_wp2_with fail
              go_meet
              case rel => exact ⟨v, L, ch, rfl, HH.out, HKP.out⟩
            by_cases h30 : k < 30
            case neg =>
              have hlen' : (k : Int) < (Z.length : Int) := by omega
              have h30' : decide ((k : Int) < 30) = false := by simp; omega
              go_wp2_with fail
              go_meet
              case rel => exact ⟨v, L, ch, rfl, HH.out, HKP.out⟩
            have hlen' : (k : Int) < (Z.length : Int) := by omega
            have h30' : (k : Int) < 30 := by omega
            obtain ⟨b, off, rfl, hlt, hc⟩ := HC.out (by rintro rfl; simp at hlen)
            obtain ⟨x, hx, hI⟩ := hc k hlen
            clear hc
            generalize Z.getD k [] = r at *
            obtain ⟨bdr, A', cap', rfl, hle', hm', hcr⟩ := hI
            have HBD := Lib.hid (ith_bounds bdr)
            unfold maxLen at hm'
            have hs := HH.out.since
            have cx : wr.cell? ⟨b, off + k, none⟩ = some (.slice A' r.length cap') := hs.cell hlt hx
            by_cases h3 : r.length = 2
            case neg =>
              have h3' : ((r.length : Int) != 2) = true := by simp; omega
              clear hcr bdr hx
              go_wp2_with fail
              go_roundw
              case rel => exact ⟨k + 1, v, L, ch, by go_num, by omega, rfl, HH.out, HKP.out⟩
              case measure => simp [intOf]; omega
            have h3' : ((r.length : Int) != 2) = false := by simp; omega
            obtain ⟨b2, off2, rfl, hlt2, hc2⟩ := hcr (by rintro rfl; simp at h3)
            have q0 : wr.cell? ⟨b2, off2, none⟩ = some (.int .i64 (ith r 0)) := hs.cell hlt2 (by have := hc2 0 (by omega); simpa using this)
            have q1 : wr.cell? ⟨b2, off2 + 1, none⟩ = some (.int .i64 (ith r 1)) := hs.cell hlt2 (hc2 1 (by omega))
            have hl31 : (1 : Int) < (r.length : Int) := by omega
            have hl30 : (0 : Int) < (r.length : Int) := by omega
            generalize ith r 0 = x0 at *
            generalize ith r 1 = x1 at *
            clear hcr hc2 bdr hx h3
            repeat ((fail_if_success (with_reducible refine stop_at 22 ?_)); first | fail | go_values | go_skip | go_guarded | go_step | go_upon | go_back | go_simp)
            obtain ⟨wq, rfl⟩ : ∃ wq : World, wq = wr := ⟨_, rfl⟩
            go_cut [16] (fun s16 wx => ∃ (v' : Value) (L' : List Let) (er : Int), s16 = errV er ∧ Hold w wx g v' (.slice Av S.length cv) L' S ∧ Keep S L' (ch || (er == 0)) 0)
            case first =>
              as_aux_lemma =>
                by_cases h0 : x0 = 0
                · have h0' : (x0 == 0) = true := by simpa using h0
                  clear h0
                  go_wp2_with fail
                  refine (klose g v L x1 _ HH.out.kz).mono ?_
                  rintro e w6 ⟨rfl, h6⟩
                  obtain ⟨v6, hH6⟩ := HH.out.stepK h6
                  have HH6 := Lib.hid hH6
                  clear h6 hH6 cx q0 q1
                  go_wp2_with fail
                  go_meet
                  case rel => exact ⟨v6, _, _, rfl, HH6.out, HKP.out.lose x1⟩
                · have h0' : (x0 == 0) = false := by simpa using h0
                  clear h0
                  go_wp2_with fail
                  refine (ktwice g v L x1 _ HH.out.kz).mono ?_
                  rintro e w6 ⟨rfl, h6⟩
                  obtain ⟨v6, hH6⟩ := HH.out.stepK h6
                  have HH6 := Lib.hid hH6
                  clear h6 hH6 cx q0 q1
                  go_wp2_with fail
                  go_meet
                  case rel => exact ⟨v6, _, _, rfl, HH6.out, HKP.out.twice x1⟩
            case rest =>
              as_aux_lemma =>
                obtain ⟨wt, rfl⟩ : ∃ wt : World, wt = wc := ⟨_, rfl⟩
                obtain ⟨v', L', er, rfl, hH, hKP⟩ := hcut
                have HH6 := Lib.hid hH
                clear hH HH HKP cx q0 q1
                cases ch with
                | true =>
                  have HKP6 := Lib.hid hKP
                  clear hKP
                  go_wp2_with fail
                  go_roundw
                  case rel => exact ⟨k + 1, v', L', true, by go_num, by omega, rfl, HH6.out, HKP6.out⟩
                  case measure => simp [intOf]; omega
                | false =>
                  rw [Bool.false_or] at hKP
                  by_cases he : er = 0
                  · subst he
                    rw [errV_zero]
                    have HKP6 := Lib.hid (show Keep S L' true 0 from hKP)
                    clear hKP
                    go_wp2_with fail
                    go_roundw
                    case rel => exact ⟨k + 1, v', L', true, by go_num, by omega, rfl, HH6.out, HKP6.out⟩
                    case measure => simp [intOf]; omega
                  · rw [errV_pos he]
                    have hee : (er == 0) = false := by simpa using he
                    rw [hee] at hKP
                    have HKP6 := Lib.hid hKP
                    clear hKP hee
                    go_wp2_with fail
                    go_roundw
                    case rel => exact ⟨k + 1, v', L', false, by go_num, by omega, rfl, HH6.out, HKP6.out⟩
                    case measure => simp [intOf]; omega
      case rest =>
        as_aux_lemma =>
          obtain ⟨wo, rfl⟩ : ∃ wo : World, wo = wc := ⟨_, rfl⟩
          obtain ⟨v, L, ch, rfl, hH, hKP⟩ := hcut
          have HH0 := Lib.hid hH
          have HKP0 := Lib.hid hKP
          have hL40 : L.length ≤ 40 := hH.kz.few
          clear hH hKP
          go_wp2_with fail
          go_loopw [17, 18, 19, 20, 21, 22, 23] (fun s17 s18 s19 s20 s21 s22 s23 wr => ∃ (k n : Nat) (v : Value) (L : List Let), s18 = .int .i64 k ∧ k ≤ 40 ∧ s17 = .int .i64 n ∧ n ≤ k ∧ L.length + k ≤ 40 ∧ Hold w wr g v (.slice Av S.length cv) L S ∧ Keep S L ch n) (fun _ s18 _ _ _ _ _ _ => 40 - (intOf s18).toNat)
          case atStart => exact ⟨0, 0, v, L, rfl, by omega, rfl, by omega, by omega, HH0.out, HKP0.out⟩
          case round =>
            obtain ⟨k, n, v, L, rfl, hk, rfl, hn, hLk, hH, hKP⟩ := hrel
            have HH := Lib.hid hH
            have HKP := Lib.hid hKP
            have hs := hH.since
            clear hH hKP HH0 HKP0
            by_cases h40 : k < 40
            case neg =>
              have h40' : decide ((k : Int) < 40) = false := by simp; omega
              have hl0 : L.length = 0 := by omega
              have HL0 := Lib.hid hl0
              clear hl0
              go_wp2_with (go_at_call 16; refine (kcount _ _ _ _ HH.out.kz).mono ?_; rintro e w2 ⟨rfl, rfl⟩; rw [HL0.out])
              go_ret
              exact ⟨by first | rfl | simp, (by refine Since.out ?_; repeat (first | with_reducible assumption | with_reducible exact Since.refl _ | with_reducible refine Since.later ?_ (by with_reducible assumption) | with_reducible refine Since.only ?_ (by with_reducible assumption) (by first | assumption | omega | (simp; done) | (simp; omega)) | with_reducible refine Since.alloc ?_ _ | with_reducible refine Since.drewN ?_ _ | with_reducible refine Since.drew ?_ | with_reducible refine Since.set ?_ (by first | assumption | omega | (simp; done) | (simp; omega)) _))⟩
            have h40' : (k : Int) < 40 := by omega
            cases L with
            | nil =>
              have hcnt : ∀ wx, Kz wx g v [] → Calls Try.prog 16 #[.pointer (some ⟨g, 0, none⟩)] wx fun e w' => e = .returned (.int .i64 0) ∧ wx = w' := fun wx h => kcount _ v [] wx h
              have HCNT := Lib.hid hcnt
              clear hcnt
              go_wp2_with (go_at_call 16; refine (HCNT.out _ HH.out.kz).mono ?_; rintro e w2 ⟨rfl, rfl⟩)
              go_ret
              exact ⟨by first | rfl | simp, (by refine Since.out ?_; repeat (first | with_reducible assumption | with_reducible exact Since.refl _ | with_reducible refine Since.later ?_ (by with_reducible assumption) | with_reducible refine Since.only ?_ (by with_reducible assumption) (by first | assumption | omega | (simp; done) | (simp; omega)) | with_reducible refine Since.alloc ?_ _ | with_reducible refine Since.drewN ?_ _ | with_reducible refine Since.drew ?_ | with_reducible refine Since.set ?_ (by first | assumption | omega | (simp; done) | (simp; omega)) _))⟩
            | cons d r =>
              have hpos : (0 : Int) < ((d :: r).length : Int) := by rw [List.length_cons]; omega
              have hcnt : ∀ wx, Kz wx g v (d :: r) → Calls Try.prog 16 #[.pointer (some ⟨g, 0, none⟩)] wx fun e w' => e = .returned (.int .i64 ((d :: r).length : Int)) ∧ wx = w' := fun wx h => kcount _ v (d :: r) wx h
              have HCNT := Lib.hid hcnt
              have hlk2 : r.length + (k + 1) ≤ 40 := by simp at hLk; omega
              clear hcnt hLk
              generalize ((d :: r).length : Int) = len at *
              obtain ⟨g1, g2, g3⟩ := give_first d r
              have HGV := Lib.hid (And.intro g1 (And.intro g2 g3))
              have HKG := Lib.hid HKP.out.give
              have hmem : wasB S d.b S.length = true := wasB_mem (HKP.out.mem d (by simp))
              have HMEM := Lib.hid hmem
              clear g1 g2 g3 hmem
              obtain ⟨dt, db⟩ := d
              go_wp2_with (go_at_call 16; refine (HCNT.out _ HH.out.kz).mono ?_; rintro e w2 ⟨rfl, rfl⟩)
              refine (kgive g v (⟨dt, db⟩ :: r) 0 _ HH.out.kz).mono ?_
              rintro e w6 ⟨rfl, h6⟩
              rw [HGV.out.1, HGV.out.2.1, errV_zero]
              rw [HGV.out.2.2] at h6
              obtain ⟨v6, hH6⟩ := HH.out.stepK h6
              have HH6 := Lib.hid hH6
              obtain ⟨A', cap', hve, _, _, hA⟩ := hH6.ls.shape
              rw [List.length_map] at hve
              simp only [Value.slice.injEq] at hve
              obtain ⟨rfl, _, rfl⟩ := hve
              have HA := Lib.hid hA
              clear h6 hH6 hA
              repeat ((fail_if_success (with_reducible refine stop_at 32 ?_)); first | fail | go_values | go_skip | go_guarded | go_step | go_upon | go_back | go_simp)
              obtain ⟨wq, rfl⟩ : ∃ wq : World, wq = w6 := ⟨_, rfl⟩
              go_cut [22, 23] (fun s22 s23 wx => s22 = .bool true ∧ wx = wq)
              case first =>
                go_wp2_with fail
                go_loopw [22, 23] (fun s22 s23 wr => ∃ j : Nat, s23 = .int .i64 j ∧ j ≤ S.length ∧ s22 = .bool (wasB S db j) ∧ wr = wq) (fun _ s23 _ => S.length - (intOf s23).toNat)
                case atStart => exact ⟨0, rfl, by omega, rfl, rfl⟩
                case round =>
                  obtain ⟨j, rfl, hj, rfl, rfl⟩ := hrel
                  by_cases hjl : j < S.length
                  case neg =>
                    obtain rfl : j = S.length := by omega
                    have hf : decide ((S.length : Int) < (S.length : Int)) = false := by simp
                    rw [HMEM.out]
                    go_wp2_with fail
                    go_meet
                    case rel => exact ⟨rfl, rfl⟩
                  have hjl' : (j : Int) < (S.length : Int) := by omega
                  rcases HA.out with ⟨_, h0, _⟩ | ⟨q, rfl⟩
                  · have : S = [] := by simpa using h0
                    subst this
                    simp at hjl
                  have hst : wasB S db (j + 1) = (wasB S db j || (sth S j).toList == db.toList) := rfl
                  have hget : (S.map strRow)[j]? = some (strRow (sth S j)) := by
                    unfold sth
                    simp [List.getD, List.getElem?_eq_getElem hjl]
                  have cs : wr.cell? ⟨q, j, none⟩ = some (.string (sth S j)) := by
                    have := HH6.out.ls.cell rfl hget (j := 0) rfl
                    simpa using this
                  have HST := Lib.hid hst
                  clear hst hget
                  generalize sth S j = sj at *
                  cases hb : wasB S db j with
                  | true =>
                    rw [hb] at HST
                    have HST2 := Lib.hid (show wasB S db (j + 1) = true by rw [HST.out]; rfl)
                    clear hb
                    go_wp2_with fail
                    go_roundw
                    case rel => exact ⟨j + 1, by go_num, by omega, by rw [HST2.out], by first | rfl | trivial⟩
                    case measure => simp [intOf]; omega
                  | false =>
                    rw [hb] at HST
                    have HST2 := Lib.hid (show wasB S db (j + 1) = (sj.toList == db.toList) by rw [HST.out]; rfl)
                    clear hb
                    go_wp2_with fail
                    go_roundw
                    case rel => exact ⟨j + 1, by go_num, by omega, by rw [HST2.out], by first | rfl | trivial⟩
                    case measure => simp [intOf]; omega
              case rest =>
                obtain ⟨rfl, rfl⟩ := hcut
                cases ch with
                | true =>
                  go_wp2_with fail
                  go_roundw
                  case rel => exact ⟨k + 1, n + 1, v6, r, by go_num, by omega, by go_num, by omega, by omega, HH6.out, HKG.out.1⟩
                  case measure => simp [intOf]; omega
                | false =>
                  obtain ⟨n1, n2⟩ := HKG.out.2 rfl
                  have n1' : decide ((S.length : Int) ≤ (n : Int)) = false := by simp; omega
                  have n1'' : (n : Int) < (S.length : Int) := by omega
                  rcases HA.out with ⟨_, h0, _⟩ | ⟨q, rfl⟩
                  · have : S = [] := by simpa using h0
                    subst this
                    simp at n1
                  have hget : (S.map strRow)[n]? = some (strRow (sth S n)) := by
                    unfold sth
                    simp [List.getD, List.getElem?_eq_getElem n1]
                  have cs : wc.cell? ⟨q, n, none⟩ = some (.string db) := by
                    have := HH6.out.ls.cell rfl hget (j := 0) rfl
                    rw [n2] at this
                    simpa using this
                  clear hget n2
                  go_wp2_with fail
                  go_roundw
                  case rel => exact ⟨k + 1, n + 1, v6, r, by go_num, by omega, by go_num, by omega, by omega, HH6.out, HKG.out.1⟩
                  case measure => simp [intOf]; omega

/-! the row -/
theorem own : ownKnob Try.prog.godebug = none := by kernel_rfl
theorem laidOut : laidOutB Try.prog = true := by kernel_rfl
set_option maxRecDepth 100000 in
theorem contract (H : Type) (enc : TypeId × Value → H) (W : World) (base : Nat) (args : Array Value) (ds gs : List (DataW H)) (before : List MemPlace)
    (hval : ∀ (j : Nat) t v, Try.f4.params[j]? = some t → args[j]? = some v → Value.okWide Try.prog W .any base t v)
    (hW : DataW.Whole enc Try.prog Try.f4.params.toList Rows.linkKeepsSpec.vars false W args.toList ds gs before) :
    Calls Try.prog 4 args W fun e W' => ∃ v, e = .returned v ∧ Rows.linkKeepsSpec.post enc Try.prog Try.f4 false true false false W args v W' := by
  have hW' := hW
  obtain ⟨p, q, hA0, hV, rfl, hfz, hnd⟩ := hW
  have hA : DataW.TrodAll enc Try.prog W 0 (fun _ => true) true Try.f4.params.toList args.toList ds p := hA0
  rw [Try.params4] at hA hval
  obtain ⟨v0, vs0, d0, ds0, p0, q0, hargs, rfl, rfl, h0, r0⟩ := trodAll_cons hA
  obtain ⟨v1, vs1, d1, ds1, p1, q1, rfl, rfl, rfl, h1, r1⟩ := trodAll_cons r0
  obtain ⟨rfl, rfl, rfl⟩ := trodAll_nil r1
  obtain rfl : args = #[v0, v1] := by cases args; simp_all
  obtain ⟨rfl, rfl⟩ := trodVars_none hV
  obtain ⟨a0, len0, cap0, rfl⟩ := okWide_slice Try.underlying35 (hval 0 35 v0 rfl rfl)
  have k0 := h0
  have lt0 : ∀ x ∈ p0, x.block < W.heap.size := by obtain ⟨m, hm⟩ := k0; exact DataW.trod_lt m _ _ _ hm
  obtain ⟨z0, w0⟩ : ∃ zs, StrsIn W (.slice a0 len0 cap0) zs := by
    obtain ⟨fuel, hf⟩ := h0
    exact strsIn_open Try.underlying35 Try.underlying9 (by kernel_rfl) hf lt0
  obtain ⟨a1, len1, cap1, rfl⟩ := okWide_slice Try.underlying36 (hval 1 36 v1 rfl rfl)
  have k1 := h1
  have lt1 : ∀ x ∈ p1, x.block < W.heap.size := by obtain ⟨m, hm⟩ := k1; exact DataW.trod_lt m _ _ _ hm
  obtain ⟨z1, w1⟩ : ∃ zs, IntRowsIn W (.slice a1 len1 cap1) zs := by
    obtain ⟨fuel, hf⟩ := h1
    exact intRowsIn_open Try.underlying36 Try.underlying43 Try.underlying3 (by kernel_rfl) (by kernel_rfl) hf lt1
  refine (walk (.slice a0 len0 cap0) z0 (.slice a1 len1 cap1) z1 W w0 w1).mono fun e W' ⟨he, bel⟩ => ?_
  subst he
  exact ⟨_, rfl, _, _, _, [], _, [], hW', trodAll_mk1 (shut_bool Try.underlying4 _), (trodAll_cons_mk (Below.trod laidOut (by kernel_rfl) (of_decide_eq_true (by kernel_rfl)) k0 bel lt0) (trodAll_cons_mk (Below.trod laidOut (by kernel_rfl) (of_decide_eq_true (by kernel_rfl)) k1 bel lt1) trodAll_mk0)), rfl, bel.frame _, fun h => by cases h⟩

set_option maxRecDepth 100000 in
theorem lifted (os : Os) (started : os.Started) (H : Type) (enc : TypeId × Value → H) :
    ReturnsInHanded {} Try.checked os 4 .any (Rows.linkKeepsSpec.pre6 enc Try.prog Try.f4 Rows.linkKeepsRow.domain false) (Rows.linkKeepsSpec.post enc Try.prog Try.f4 false true false false) := by
  refine returnsInHanded_of_change (C := Try.checked) own started (by kernel_rfl) Try.func4
    (ChangeSpec.witness6 (enc := enc) (C := Try.checked) false ⟨#[], #[.slice none 0 0, .slice none 0 0], []⟩ 8 (by kernel_rfl) (by kernel_rfl) (by kernel_rfl) (by kernel_rfl)) ?_
  intro W base args ds gs before hval hW _ _
  exact contract H enc W base args ds gs before hval hW

theorem said : Rows.LinkKeepsSaid :=
  OpenClaim.holds_of_wide 4 Try.f4 rfl rfl rfl rfl rfl rfl rfl ⟨rfl, rfl, rfl, rfl, rfl⟩ rfl rfl rfl rfl rfl (by kernel_rfl) Try.func4 (by kernel_rfl)
    (of_decide_eq_true (by kernel_rfl)) (by unfold Func.isWrapper; first | (rw [if_pos (by decide +kernel)]; kernel_rfl) | (rw [if_neg (by decide +kernel)]; exact ⟨rfl, rfl⟩))
    (fun os started H enc _ => lifted os started H enc)
#print axioms said
end Go.Proofs.Ytbmfknnbpnllkaa.linkKeeps
