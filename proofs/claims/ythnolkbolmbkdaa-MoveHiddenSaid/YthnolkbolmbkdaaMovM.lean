/- Contract of move.Move. Condition: the blocks hold a Mover as New and the calls leave it. Printed by gen_mov.py. -/
import Derived.Test.YthnolkbolmbkdaaMovE
namespace Go.Proofs.Ythnolkbolmbkdaa
open Go.ChangeShapes Go.WideShapes Go.ChangeAt Go.RowKit
set_option linter.unusedVariables false

def mNx (L : List One) (was : Int) : Int := place (fun d => d.s != was) L 0
def mMovE (s : MvS) (i : Int) : Int := if pathB i = true then (if (s.P.at i.toNat).k = false then 6 else if i = s.ta then 7 else if mSb s.L s.tb = false ∨ mNx s.L (mSq s.L s.tb) < 0 then 5 else retE s.L (mSq s.L s.tb)) else 1
def mMov (s : MvS) (i : Int) : MvS := if mMovE s i = 0 then { s with L := retL s.L (mSq s.L s.tb), ta := i, tb := (s.L.getD (mNx s.L (mSq s.L s.tb)).toNat ⟨0, 0⟩).s } else s
theorem mMov_bad {s : MvS} {i : Int} (h : mMovE s i ≠ 0) : mMov s i = s := by unfold mMov; rw [if_neg h]
theorem mMov_ok {s : MvS} {i : Int} (h : mMovE s i = 0) : mMov s i = { s with L := retL s.L (mSq s.L s.tb), ta := i, tb := (s.L.getD (mNx s.L (mSq s.L s.tb)).toNat ⟨0, 0⟩).s } := by unfold mMov; rw [if_pos h]
theorem ret_bad {L : List One} {x : Int} (h : retE L x ≠ 0) : retL L x = L := by
  unfold retE at h
  unfold retL
  split
  · rfl
  · rename_i hn
    rw [if_neg hn] at h
    exact absurd rfl h
theorem mMovE_at {s : MvS} {i : Int} (h1 : pathB i = true) (h2 : (s.P.at i.toNat).k = true) (h3 : i = s.ta) : mMovE s i = 7 := by unfold mMovE; rw [if_pos h1, if_neg (by rw [h2]; decide), if_pos h3]
theorem mMovE_eq {s : MvS} {i : Int} (h1 : pathB i = true) (h2 : (s.P.at i.toNat).k = true) (h3 : ¬ i = s.ta) : mMovE s i = if mSb s.L s.tb = false ∨ mNx s.L (mSq s.L s.tb) < 0 then 5 else retE s.L (mSq s.L s.tb) := by unfold mMovE; rw [if_pos h1, if_neg (by rw [h2]; decide), if_neg h3]
theorem Mz.drew {w : World} {B : MvB} {s : MvS} (h : Mz w B s) : Mz w.drew B s := ⟨h.bl.drew, h.iz.drew, h.pr.drew, h.ne⟩
theorem MLeft.put2 {w w1 : World} {B : MvB} {s s' : MvS} (h : MLeft w w1 B s) (ta tb : Int) (hc : ((mvCells s.P B.gi B.gp s.ta s.tb).setIfInBounds 14 (.int .i64 ta)).setIfInBounds 15 (.int .i64 tb) = mvCells s'.P B.gi B.gp s'.ta s'.tb) (e1 : s'.lim = s.lim) (e2 : s'.L = s.L) (e3 : s'.N = s.N) (e4 : s'.As = s.As) :
    MLeft w ((w1.setCell ⟨B.g, 14, none⟩ (.int .i64 ta)).setCell ⟨B.g, 15, none⟩ (.int .i64 tb)) B s' := by
  obtain ⟨v1, hz1, ho1, hk1⟩ := h
  have h1 : MLeft w w1 B s := ⟨v1, hz1, ho1, hk1⟩
  refine h1.trans (s2 := s') ho1.size (fun v' hz => ?_)
  refine Mz.own (B := { B with v := v' }) hz (hc ▸ (hz.bl.put 14 (.int .i64 ta)).put 15 (.int .i64 tb)) ?_ e1 e2 e3 e4
  exact ((Out.refl w1 _).put (p := ⟨B.g, 14, none⟩) (Or.inl (by simp)) _).put (p := ⟨B.g, 15, none⟩) (Or.inl (by simp)) _
set_option maxHeartbeats 6400000 in
set_option maxRecDepth 100000 in
theorem mmove (B : MvB) (s : MvS) (i : Int) (w : World) (h : Mz w B s) :
    Calls Try.prog 9 #[.pointer (some ⟨B.g, 0, none⟩), .int .i64 i] w fun e w' => e = .returned (errV (mMovE s i)) ∧ MLeft w w' B (mMov s i) := by
  have MS := Lib.hid (fun W hz => mseq B s W hz)
  obtain ⟨g, gi, bi, gp, bp, v⟩ := B
  have H := Lib.hid h
  obtain ⟨⟨⟨ia, oa, ka⟩, ⟨ib, ob, kb⟩, ⟨ic, oc, kc⟩, ⟨id, od, kd⟩⟩, lim, L, N, As, ta, tb⟩ := s
  have HB : Hid (BlockIs w g 49 #[.int .i64 ia, .int .i64 oa, .bool ka, .int .i64 ib, .int .i64 ob, .bool kb, .int .i64 ic, .int .i64 oc, .bool kc, .int .i64 id, .int .i64 od, .bool kd, .pointer (some ⟨gi, 0, none⟩), .pointer (some ⟨gp, 0, none⟩), .int .i64 ta, .int .i64 tb]) := Lib.hid h.bl
  have lg : g < w.heap.size := HB.out.lt
  simp only at MS ⊢
  clear h
  cases hb : pathB i with
  | false =>
    have PA := Lib.hid (fun W => path_any i W)
    have E : Hid (mMovE (⟨⟨⟨ia, oa, ka⟩, ⟨ib, ob, kb⟩, ⟨ic, oc, kc⟩, ⟨id, od, kd⟩⟩, lim, L, N, As, ta, tb⟩ : MvS) i = 1) := Lib.hid (by unfold mMovE; rw [if_neg (by rw [hb]; decide)])
    rw [hb] at PA
    clear hb
    go_enter Try.func9, Try.ntmps9
    go_wp2_with fail
    refine (PA.out _).mono ?_
    rintro e w1 ⟨rfl, rfl⟩
    trace "A"; go_wp2_with fail
    go_ret
    exact ⟨by rw [E.out]; rfl, by rw [mMov_bad (by rw [E.out]; decide)]; exact H.out.same (by refine Since.out ?_; repeat (first | with_reducible assumption | with_reducible exact Since.refl _ | with_reducible refine Since.later ?_ (by with_reducible assumption) | with_reducible refine Since.only ?_ (by with_reducible assumption) (by first | assumption | omega | (simp; done) | (simp; omega)) | with_reducible refine Since.alloc ?_ _ | with_reducible refine Since.drewN ?_ _ | with_reducible refine Since.drew ?_ | with_reducible refine Since.set ?_ (by first | assumption | omega | (simp; done) | (simp; omega)) _))⟩
  | true =>
    rcases path4 hb with rfl | rfl | rfl | rfl
    · have PA := Lib.hid (fun W => path_any 0 W)
      have d2 : w.cell? ⟨g, 2, none⟩ = some (.bool ka) := HB.out.cell 2
      simp only [show pathB 0 = true from rfl] at PA
      clear hb
      cases ka with
      | false =>
        have E : Hid (mMovE (⟨⟨⟨ia, oa, false⟩, ⟨ib, ob, kb⟩, ⟨ic, oc, kc⟩, ⟨id, od, kd⟩⟩, lim, L, N, As, ta, tb⟩ : MvS) 0 = 6) := Lib.hid rfl
        go_enter Try.func9, Try.ntmps9
        go_wp2_with fail
        refine (PA.out _).mono ?_
        rintro e w1 ⟨rfl, rfl⟩
        trace "B0"; go_wp2_with fail
        go_ret
        exact ⟨by rw [E.out]; rfl, by rw [mMov_bad (by rw [E.out]; decide)]; exact H.out.same (by refine Since.out ?_; repeat (first | with_reducible assumption | with_reducible exact Since.refl _ | with_reducible refine Since.later ?_ (by with_reducible assumption) | with_reducible refine Since.only ?_ (by with_reducible assumption) (by first | assumption | omega | (simp; done) | (simp; omega)) | with_reducible refine Since.alloc ?_ _ | with_reducible refine Since.drewN ?_ _ | with_reducible refine Since.drew ?_ | with_reducible refine Since.set ?_ (by first | assumption | omega | (simp; done) | (simp; omega)) _))⟩
      | true =>
        have d14 : w.cell? ⟨g, 14, none⟩ = some (.int .i64 ta) := HB.out.cell 14
        by_cases hat : (0 : Int) = ta
        · have E : Hid (mMovE (⟨⟨⟨ia, oa, true⟩, ⟨ib, ob, kb⟩, ⟨ic, oc, kc⟩, ⟨id, od, kd⟩⟩, lim, L, N, As, ta, tb⟩ : MvS) 0 = 7) := Lib.hid (mMovE_at rfl rfl hat)
          have hat' : ((0 : Int) == ta) = true := by simpa using hat
          clear hat
          go_enter Try.func9, Try.ntmps9
          go_wp2_with fail
          refine (PA.out _).mono ?_
          rintro e w1 ⟨rfl, rfl⟩
          trace "C0"; go_wp2_with fail
          go_ret
          exact ⟨by rw [E.out]; rfl, by rw [mMov_bad (by rw [E.out]; decide)]; exact H.out.same (by refine Since.out ?_; repeat (first | with_reducible assumption | with_reducible exact Since.refl _ | with_reducible refine Since.later ?_ (by with_reducible assumption) | with_reducible refine Since.only ?_ (by with_reducible assumption) (by first | assumption | omega | (simp; done) | (simp; omega)) | with_reducible refine Since.alloc ?_ _ | with_reducible refine Since.drewN ?_ _ | with_reducible refine Since.drew ?_ | with_reducible refine Since.set ?_ (by first | assumption | omega | (simp; done) | (simp; omega)) _))⟩
        have hat' : ((0 : Int) == ta) = false := by simpa using hat
        obtain ⟨was, hwas⟩ : ∃ q, mSq L tb = q := ⟨_, rfl⟩
        obtain ⟨p, hp⟩ : ∃ p, mNx L was = p := ⟨_, rfl⟩
        have E : Hid (mMovE (⟨⟨⟨ia, oa, true⟩, ⟨ib, ob, kb⟩, ⟨ic, oc, kc⟩, ⟨id, od, kd⟩⟩, lim, L, N, As, ta, tb⟩ : MvS) 0 = if mSb L tb = false ∨ p < 0 then 5 else retE L was) := Lib.hid (by rw [mMovE_eq rfl rfl hat]; simp only; rw [hwas, hp])
        have EO : Hid (mMovE (⟨⟨⟨ia, oa, true⟩, ⟨ib, ob, kb⟩, ⟨ic, oc, kc⟩, ⟨id, od, kd⟩⟩, lim, L, N, As, ta, tb⟩ : MvS) 0 = 0 → mMov (⟨⟨⟨ia, oa, true⟩, ⟨ib, ob, kb⟩, ⟨ic, oc, kc⟩, ⟨id, od, kd⟩⟩, lim, L, N, As, ta, tb⟩ : MvS) 0 = { (⟨⟨⟨ia, oa, true⟩, ⟨ib, ob, kb⟩, ⟨ic, oc, kc⟩, ⟨id, od, kd⟩⟩, lim, L, N, As, ta, tb⟩ : MvS) with L := retL L was, ta := 0, tb := (L.getD p.toNat ⟨0, 0⟩).s }) := Lib.hid (fun h => by rw [mMov_ok h]; simp only; rw [hwas, hp])
        have HP : Hid (place (fun d => d.s != was) L 0 = p) := Lib.hid hp
        have hpb := place_bound (p := fun d => d.s != was) (L := L) (k := 0)
        rw [HP.out] at hpb
        rw [hwas] at MS
        have hfew := H.out.iz.few
        have hl2 := H.out.iz.l2
        simp only at hfew hl2
        have IL := Lib.hid (fun W hz => ilive gi bi v lim L N W hz)
        have IR := Lib.hid (fun W (hz : Mz W ⟨g, gi, bi, gp, bp, v⟩ (⟨⟨⟨ia, oa, true⟩, ⟨ib, ob, kb⟩, ⟨ic, oc, kc⟩, ⟨id, od, kd⟩⟩, lim, L, N, As, ta, tb⟩ : MvS)) => (iretire gi bi v lim L N was W hz.iz).mono fun e w' hh => And.intro hh.1 (And.intro (show MLeft W w' ⟨g, gi, bi, gp, bp, v⟩ { (⟨⟨⟨ia, oa, true⟩, ⟨ib, ob, kb⟩, ⟨ic, oc, kc⟩, ⟨id, od, kd⟩⟩, lim, L, N, As, ta, tb⟩ : MvS) with L := retL L was } from hz.ids hh.2) (show Out W w' (gi :: bi :: blocks v) from hh.2.choose_spec.2.1)))
        have FN := Lib.hid (fun A cap (h : Nat) W hc hv => findNot (.slice A L.length cap) L was h W hc hv (by omega))
        rw [HP.out] at FN
        obtain ⟨n, hn⟩ : ∃ n, L.length = n := ⟨_, rfl⟩
        rw [hn] at hpb hfew IL FN
        have HNL := Lib.hid hn
        have hwr : Hid True := Lib.hid trivial
        clear hat hwas hp hn
        go_enter Try.func9, Try.ntmps9
        go_wp2_with fail
        refine (PA.out _).mono ?_
        rintro e w1 ⟨rfl, rfl⟩
        trace "D0"; go_wp2_with fail
        refine (MS.out _ H.out).mono ?_
        rintro e w2 ⟨rfl, hb2⟩
        have hs2 : Since w w2 := hb2
        have hs2a : Since w (w2.alloc (.cells #[.int .i64 was] 3)) := hs2.alloc _
        have m12 : w2.cell? ⟨g, 12, none⟩ = some (.pointer (some ⟨gi, 0, none⟩)) := (HB.out.later hs2).cell 12
        have lg2 : g < w2.heap.size := Nat.lt_of_lt_of_le lg hs2.le
        have HT := Lib.hid (BlockIs.fresh w2 3 #[.int .i64 was])
        clear hb2 d2 d14
        trace "E0"; go_wp2_with fail
        refine (IL.out _ (H.out.later hs2a).iz).mono ?_
        rintro e w3 ⟨A, cap, rfl, hl3, hb3, hk3⟩
        have HT3 := Lib.hid (HT.out.later hb3)
        have hs3 := hs2a.later hb3
        have HL3 := Lib.hid hl3
        have HK3 := Lib.hid hk3
        clear hl3 hb3 hk3 m12
        trace "F0"; go_wp2_with fail
        refine (FN.out A cap w2.heap.size _ (HT3.out.cell 0) HL3.out).mono ?_
        rintro e w4 ⟨rfl, hb4⟩
        have hs4 := hs3.later hb4
        have HT4 := Lib.hid (HT3.out.later hb4)
        have HL4 := Lib.hid (HL3.out.later hb4)
        have HM4 := Lib.hid (H.out.later hs4)
        have hle : w2.heap.size < w4.heap.size := HT4.out.lt
        clear hb4 HL3 HT3
        cases hsb : mSb L tb with
        | false =>
          have E5 := Lib.hid (E.out.trans (if_pos (Or.inl hsb)))
          rw [hsb] at *
          trace "G0"; go_wp2_with fail
          go_ret
          exact ⟨by rw [E5.out]; rfl, by rw [mMov_bad (by rw [E5.out]; decide)]; exact H.out.same hs4⟩
        | true =>
          by_cases hneg : p < 0
          · have E5 := Lib.hid (E.out.trans (if_pos (Or.inr hneg)))
            clear hpb
            trace "H0"; go_wp2_with fail
            go_ret
            exact ⟨by rw [E5.out]; rfl, by rw [mMov_bad (by rw [E5.out]; decide)]; exact H.out.same hs4⟩
          have E6 := Lib.hid (E.out.trans (if_neg (by rw [hsb]; simp; omega)))
          have hneg' : decide (p < 0) = false := by simpa using hneg
          obtain ⟨m, rfl⟩ : ∃ m : Nat, p = m := ⟨p.toNat, by omega⟩
          have hmn : m < n := by omega
          have hmn' : (m : Int) < (n : Int) := by omega
          have c4 : w4.cell? ⟨w2.heap.size, 0, none⟩ = some (.int .i64 was) := HT4.out.cell 0
          have m12 : w4.cell? ⟨g, 12, none⟩ = some (.pointer (some ⟨gi, 0, none⟩)) := HM4.out.bl.cell 12
          have lg4 : g < w4.heap.size := Nat.lt_of_lt_of_le lg hs4.le
          clear hpb hneg E
          trace "I0"; go_wp2_with fail
          go_region_law (go_simp; go_at_call 26; refine (IR.out _ ?_).mono ?_; (first | exact HM4.out | exact HM4.out.drew); rintro e w5 ⟨rfl, hm5, ho5⟩; have HM5 := Lib.hid (MLeft.pre (w := w) (by first | exact hs4 | exact hs4.drew) hm5); have HO5 := Lib.hid (show Out w4 w5 (gi :: bi :: blocks v) from by first | exact ho5 | exact ho5.of_drew); clear hm5 ho5)
          all_goals
            by_cases hr : retE L was = 0
            case neg =>
              rw [errV_pos hr]
              have E7 := Lib.hid (show mMov (⟨⟨⟨ia, oa, true⟩, ⟨ib, ob, kb⟩, ⟨ic, oc, kc⟩, ⟨id, od, kd⟩⟩, lim, L, N, As, ta, tb⟩ : MvS) 0 = _ from mMov_bad (by rw [E6.out]; exact hr))
              have ER := Lib.hid (errV_pos hr)
              have RB := Lib.hid (ret_bad hr)
              clear hr
              trace "J0"; go_wp2_with fail
              go_ret
              refine ⟨by rw [E6.out, ER.out]; rfl, ?_⟩
              rw [E7.out]
              have h9 := HM5.out
              rw [RB.out] at h9
              exact h9
            have E7 := Lib.hid (EO.out (E6.out.trans hr))
            have E8 := Lib.hid (E6.out.trans hr)
            rw [hr, errV_zero]
            obtain ⟨A', cap', hve, _, _, hA⟩ := HL4.out.shape
            simp only [Value.slice.injEq] at hve
            obtain ⟨rfl, hnn, rfl⟩ := hve
            clear hnn
            rcases hA with ⟨_, h0, _⟩ | ⟨q, rfl⟩
            · have : L = [] := by simpa using h0
              have h9 := HNL.out
              rw [this] at h9
              simp at h9
              omega
            have hml : m < L.length := by rw [HNL.out]; exact hmn
            have hq : q ∉ gi :: bi :: blocks v := fun hm => by
              have h1 := HK3.out q (by simp [Value.ownBlock])
              have h2 := H.out.lt q (MvB.inI ⟨g, gi, bi, gp, bp, v⟩ hm)
              have h3 := hs2.le
              rw [World.size_alloc] at h1
              omega
            have HL5 := Lib.hid (HL4.out.kept HO5.out (fun k hk => by
              have hk' : q = k := by simpa [Value.ownBlock] using hk
              exact hk' ▸ hq))
            have q0 : w5.cell? ⟨q, m * 2, none⟩ = some (.int .i64 L[m].s) := HL5.out.cell rfl (elem_of_row hml) (j := 0) rfl
            have lq : q < w5.heap.size := HL5.out.lt q (by simp [Value.ownBlock])
            have HD : Hid ((L.getD (m : Int).toNat ⟨0, 0⟩).s = L[m].s) := Lib.hid (by simp [List.getD, List.getElem?_eq_getElem hml])
            rw [HD.out] at E7
            obtain ⟨ds, hds⟩ : ∃ ds, L[m].s = ds := ⟨_, rfl⟩
            rw [hds] at q0 E7
            have e14 : w5.cell? ⟨g, 14, none⟩ = some (.int .i64 ta) := by
              obtain ⟨v5, hz5, _⟩ := HM5.out; exact hz5.bl.cell 14
            have e15 : w5.cell? ⟨g, 15, none⟩ = some (.int .i64 tb) := by
              obtain ⟨v5, hz5, _⟩ := HM5.out; exact hz5.bl.cell 15
            have l5 : g < w5.heap.size := by
              obtain ⟨v5, hz5, _⟩ := HM5.out; exact hz5.bl.lt
            have f5 : ∀ i, w5.frozen? ⟨g, i, none⟩ = false := by
              obtain ⟨v5, hz5, _⟩ := HM5.out; exact hz5.bl.free
            have hqg : q ≠ g := fun e => by
              have h1 := HK3.out q (by simp [Value.ownBlock])
              rw [World.size_alloc] at h1
              omega
            clear hr hds HD hq hml EO E6
            trace "K0"; go_wp2_with fail
            go_ret
            refine ⟨by rw [E8.out]; rfl, ?_⟩
            rw [E7.out]
            exact HM5.out.put2 0 ds rfl rfl rfl rfl rfl
    · have PA := Lib.hid (fun W => path_any 1 W)
      have d2 : w.cell? ⟨g, 5, none⟩ = some (.bool kb) := HB.out.cell 5
      simp only [show pathB 1 = true from rfl] at PA
      clear hb
      cases kb with
      | false =>
        have E : Hid (mMovE (⟨⟨⟨ia, oa, ka⟩, ⟨ib, ob, false⟩, ⟨ic, oc, kc⟩, ⟨id, od, kd⟩⟩, lim, L, N, As, ta, tb⟩ : MvS) 1 = 6) := Lib.hid rfl
        go_enter Try.func9, Try.ntmps9
        go_wp2_with fail
        refine (PA.out _).mono ?_
        rintro e w1 ⟨rfl, rfl⟩
        trace "B1"; go_wp2_with fail
        go_ret
        exact ⟨by rw [E.out]; rfl, by rw [mMov_bad (by rw [E.out]; decide)]; exact H.out.same (by refine Since.out ?_; repeat (first | with_reducible assumption | with_reducible exact Since.refl _ | with_reducible refine Since.later ?_ (by with_reducible assumption) | with_reducible refine Since.only ?_ (by with_reducible assumption) (by first | assumption | omega | (simp; done) | (simp; omega)) | with_reducible refine Since.alloc ?_ _ | with_reducible refine Since.drewN ?_ _ | with_reducible refine Since.drew ?_ | with_reducible refine Since.set ?_ (by first | assumption | omega | (simp; done) | (simp; omega)) _))⟩
      | true =>
        have d14 : w.cell? ⟨g, 14, none⟩ = some (.int .i64 ta) := HB.out.cell 14
        by_cases hat : (1 : Int) = ta
        · have E : Hid (mMovE (⟨⟨⟨ia, oa, ka⟩, ⟨ib, ob, true⟩, ⟨ic, oc, kc⟩, ⟨id, od, kd⟩⟩, lim, L, N, As, ta, tb⟩ : MvS) 1 = 7) := Lib.hid (mMovE_at rfl rfl hat)
          have hat' : ((1 : Int) == ta) = true := by simpa using hat
          clear hat
          go_enter Try.func9, Try.ntmps9
          go_wp2_with fail
          refine (PA.out _).mono ?_
          rintro e w1 ⟨rfl, rfl⟩
          trace "C1"; go_wp2_with fail
          go_ret
          exact ⟨by rw [E.out]; rfl, by rw [mMov_bad (by rw [E.out]; decide)]; exact H.out.same (by refine Since.out ?_; repeat (first | with_reducible assumption | with_reducible exact Since.refl _ | with_reducible refine Since.later ?_ (by with_reducible assumption) | with_reducible refine Since.only ?_ (by with_reducible assumption) (by first | assumption | omega | (simp; done) | (simp; omega)) | with_reducible refine Since.alloc ?_ _ | with_reducible refine Since.drewN ?_ _ | with_reducible refine Since.drew ?_ | with_reducible refine Since.set ?_ (by first | assumption | omega | (simp; done) | (simp; omega)) _))⟩
        have hat' : ((1 : Int) == ta) = false := by simpa using hat
        obtain ⟨was, hwas⟩ : ∃ q, mSq L tb = q := ⟨_, rfl⟩
        obtain ⟨p, hp⟩ : ∃ p, mNx L was = p := ⟨_, rfl⟩
        have E : Hid (mMovE (⟨⟨⟨ia, oa, ka⟩, ⟨ib, ob, true⟩, ⟨ic, oc, kc⟩, ⟨id, od, kd⟩⟩, lim, L, N, As, ta, tb⟩ : MvS) 1 = if mSb L tb = false ∨ p < 0 then 5 else retE L was) := Lib.hid (by rw [mMovE_eq rfl rfl hat]; simp only; rw [hwas, hp])
        have EO : Hid (mMovE (⟨⟨⟨ia, oa, ka⟩, ⟨ib, ob, true⟩, ⟨ic, oc, kc⟩, ⟨id, od, kd⟩⟩, lim, L, N, As, ta, tb⟩ : MvS) 1 = 0 → mMov (⟨⟨⟨ia, oa, ka⟩, ⟨ib, ob, true⟩, ⟨ic, oc, kc⟩, ⟨id, od, kd⟩⟩, lim, L, N, As, ta, tb⟩ : MvS) 1 = { (⟨⟨⟨ia, oa, ka⟩, ⟨ib, ob, true⟩, ⟨ic, oc, kc⟩, ⟨id, od, kd⟩⟩, lim, L, N, As, ta, tb⟩ : MvS) with L := retL L was, ta := 1, tb := (L.getD p.toNat ⟨0, 0⟩).s }) := Lib.hid (fun h => by rw [mMov_ok h]; simp only; rw [hwas, hp])
        have HP : Hid (place (fun d => d.s != was) L 0 = p) := Lib.hid hp
        have hpb := place_bound (p := fun d => d.s != was) (L := L) (k := 0)
        rw [HP.out] at hpb
        rw [hwas] at MS
        have hfew := H.out.iz.few
        have hl2 := H.out.iz.l2
        simp only at hfew hl2
        have IL := Lib.hid (fun W hz => ilive gi bi v lim L N W hz)
        have IR := Lib.hid (fun W (hz : Mz W ⟨g, gi, bi, gp, bp, v⟩ (⟨⟨⟨ia, oa, ka⟩, ⟨ib, ob, true⟩, ⟨ic, oc, kc⟩, ⟨id, od, kd⟩⟩, lim, L, N, As, ta, tb⟩ : MvS)) => (iretire gi bi v lim L N was W hz.iz).mono fun e w' hh => And.intro hh.1 (And.intro (show MLeft W w' ⟨g, gi, bi, gp, bp, v⟩ { (⟨⟨⟨ia, oa, ka⟩, ⟨ib, ob, true⟩, ⟨ic, oc, kc⟩, ⟨id, od, kd⟩⟩, lim, L, N, As, ta, tb⟩ : MvS) with L := retL L was } from hz.ids hh.2) (show Out W w' (gi :: bi :: blocks v) from hh.2.choose_spec.2.1)))
        have FN := Lib.hid (fun A cap (h : Nat) W hc hv => findNot (.slice A L.length cap) L was h W hc hv (by omega))
        rw [HP.out] at FN
        obtain ⟨n, hn⟩ : ∃ n, L.length = n := ⟨_, rfl⟩
        rw [hn] at hpb hfew IL FN
        have HNL := Lib.hid hn
        have hwr : Hid True := Lib.hid trivial
        clear hat hwas hp hn
        go_enter Try.func9, Try.ntmps9
        go_wp2_with fail
        refine (PA.out _).mono ?_
        rintro e w1 ⟨rfl, rfl⟩
        trace "D1"; go_wp2_with fail
        refine (MS.out _ H.out).mono ?_
        rintro e w2 ⟨rfl, hb2⟩
        have hs2 : Since w w2 := hb2
        have hs2a : Since w (w2.alloc (.cells #[.int .i64 was] 3)) := hs2.alloc _
        have m12 : w2.cell? ⟨g, 12, none⟩ = some (.pointer (some ⟨gi, 0, none⟩)) := (HB.out.later hs2).cell 12
        have lg2 : g < w2.heap.size := Nat.lt_of_lt_of_le lg hs2.le
        have HT := Lib.hid (BlockIs.fresh w2 3 #[.int .i64 was])
        clear hb2 d2 d14
        trace "E1"; go_wp2_with fail
        refine (IL.out _ (H.out.later hs2a).iz).mono ?_
        rintro e w3 ⟨A, cap, rfl, hl3, hb3, hk3⟩
        have HT3 := Lib.hid (HT.out.later hb3)
        have hs3 := hs2a.later hb3
        have HL3 := Lib.hid hl3
        have HK3 := Lib.hid hk3
        clear hl3 hb3 hk3 m12
        trace "F1"; go_wp2_with fail
        refine (FN.out A cap w2.heap.size _ (HT3.out.cell 0) HL3.out).mono ?_
        rintro e w4 ⟨rfl, hb4⟩
        have hs4 := hs3.later hb4
        have HT4 := Lib.hid (HT3.out.later hb4)
        have HL4 := Lib.hid (HL3.out.later hb4)
        have HM4 := Lib.hid (H.out.later hs4)
        have hle : w2.heap.size < w4.heap.size := HT4.out.lt
        clear hb4 HL3 HT3
        cases hsb : mSb L tb with
        | false =>
          have E5 := Lib.hid (E.out.trans (if_pos (Or.inl hsb)))
          rw [hsb] at *
          trace "G1"; go_wp2_with fail
          go_ret
          exact ⟨by rw [E5.out]; rfl, by rw [mMov_bad (by rw [E5.out]; decide)]; exact H.out.same hs4⟩
        | true =>
          by_cases hneg : p < 0
          · have E5 := Lib.hid (E.out.trans (if_pos (Or.inr hneg)))
            clear hpb
            trace "H1"; go_wp2_with fail
            go_ret
            exact ⟨by rw [E5.out]; rfl, by rw [mMov_bad (by rw [E5.out]; decide)]; exact H.out.same hs4⟩
          have E6 := Lib.hid (E.out.trans (if_neg (by rw [hsb]; simp; omega)))
          have hneg' : decide (p < 0) = false := by simpa using hneg
          obtain ⟨m, rfl⟩ : ∃ m : Nat, p = m := ⟨p.toNat, by omega⟩
          have hmn : m < n := by omega
          have hmn' : (m : Int) < (n : Int) := by omega
          have c4 : w4.cell? ⟨w2.heap.size, 0, none⟩ = some (.int .i64 was) := HT4.out.cell 0
          have m12 : w4.cell? ⟨g, 12, none⟩ = some (.pointer (some ⟨gi, 0, none⟩)) := HM4.out.bl.cell 12
          have lg4 : g < w4.heap.size := Nat.lt_of_lt_of_le lg hs4.le
          clear hpb hneg E
          trace "I1"; go_wp2_with fail
          go_region_law (go_simp; go_at_call 26; refine (IR.out _ ?_).mono ?_; (first | exact HM4.out | exact HM4.out.drew); rintro e w5 ⟨rfl, hm5, ho5⟩; have HM5 := Lib.hid (MLeft.pre (w := w) (by first | exact hs4 | exact hs4.drew) hm5); have HO5 := Lib.hid (show Out w4 w5 (gi :: bi :: blocks v) from by first | exact ho5 | exact ho5.of_drew); clear hm5 ho5)
          all_goals
            by_cases hr : retE L was = 0
            case neg =>
              rw [errV_pos hr]
              have E7 := Lib.hid (show mMov (⟨⟨⟨ia, oa, ka⟩, ⟨ib, ob, true⟩, ⟨ic, oc, kc⟩, ⟨id, od, kd⟩⟩, lim, L, N, As, ta, tb⟩ : MvS) 1 = _ from mMov_bad (by rw [E6.out]; exact hr))
              have ER := Lib.hid (errV_pos hr)
              have RB := Lib.hid (ret_bad hr)
              clear hr
              trace "J1"; go_wp2_with fail
              go_ret
              refine ⟨by rw [E6.out, ER.out]; rfl, ?_⟩
              rw [E7.out]
              have h9 := HM5.out
              rw [RB.out] at h9
              exact h9
            have E7 := Lib.hid (EO.out (E6.out.trans hr))
            have E8 := Lib.hid (E6.out.trans hr)
            rw [hr, errV_zero]
            obtain ⟨A', cap', hve, _, _, hA⟩ := HL4.out.shape
            simp only [Value.slice.injEq] at hve
            obtain ⟨rfl, hnn, rfl⟩ := hve
            clear hnn
            rcases hA with ⟨_, h0, _⟩ | ⟨q, rfl⟩
            · have : L = [] := by simpa using h0
              have h9 := HNL.out
              rw [this] at h9
              simp at h9
              omega
            have hml : m < L.length := by rw [HNL.out]; exact hmn
            have hq : q ∉ gi :: bi :: blocks v := fun hm => by
              have h1 := HK3.out q (by simp [Value.ownBlock])
              have h2 := H.out.lt q (MvB.inI ⟨g, gi, bi, gp, bp, v⟩ hm)
              have h3 := hs2.le
              rw [World.size_alloc] at h1
              omega
            have HL5 := Lib.hid (HL4.out.kept HO5.out (fun k hk => by
              have hk' : q = k := by simpa [Value.ownBlock] using hk
              exact hk' ▸ hq))
            have q0 : w5.cell? ⟨q, m * 2, none⟩ = some (.int .i64 L[m].s) := HL5.out.cell rfl (elem_of_row hml) (j := 0) rfl
            have lq : q < w5.heap.size := HL5.out.lt q (by simp [Value.ownBlock])
            have HD : Hid ((L.getD (m : Int).toNat ⟨0, 0⟩).s = L[m].s) := Lib.hid (by simp [List.getD, List.getElem?_eq_getElem hml])
            rw [HD.out] at E7
            obtain ⟨ds, hds⟩ : ∃ ds, L[m].s = ds := ⟨_, rfl⟩
            rw [hds] at q0 E7
            have e14 : w5.cell? ⟨g, 14, none⟩ = some (.int .i64 ta) := by
              obtain ⟨v5, hz5, _⟩ := HM5.out; exact hz5.bl.cell 14
            have e15 : w5.cell? ⟨g, 15, none⟩ = some (.int .i64 tb) := by
              obtain ⟨v5, hz5, _⟩ := HM5.out; exact hz5.bl.cell 15
            have l5 : g < w5.heap.size := by
              obtain ⟨v5, hz5, _⟩ := HM5.out; exact hz5.bl.lt
            have f5 : ∀ i, w5.frozen? ⟨g, i, none⟩ = false := by
              obtain ⟨v5, hz5, _⟩ := HM5.out; exact hz5.bl.free
            have hqg : q ≠ g := fun e => by
              have h1 := HK3.out q (by simp [Value.ownBlock])
              rw [World.size_alloc] at h1
              omega
            clear hr hds HD hq hml EO E6
            trace "K1"; go_wp2_with fail
            go_ret
            refine ⟨by rw [E8.out]; rfl, ?_⟩
            rw [E7.out]
            exact HM5.out.put2 1 ds rfl rfl rfl rfl rfl
    · have PA := Lib.hid (fun W => path_any 2 W)
      have d2 : w.cell? ⟨g, 8, none⟩ = some (.bool kc) := HB.out.cell 8
      simp only [show pathB 2 = true from rfl] at PA
      clear hb
      cases kc with
      | false =>
        have E : Hid (mMovE (⟨⟨⟨ia, oa, ka⟩, ⟨ib, ob, kb⟩, ⟨ic, oc, false⟩, ⟨id, od, kd⟩⟩, lim, L, N, As, ta, tb⟩ : MvS) 2 = 6) := Lib.hid rfl
        go_enter Try.func9, Try.ntmps9
        go_wp2_with fail
        refine (PA.out _).mono ?_
        rintro e w1 ⟨rfl, rfl⟩
        trace "B2"; go_wp2_with fail
        go_ret
        exact ⟨by rw [E.out]; rfl, by rw [mMov_bad (by rw [E.out]; decide)]; exact H.out.same (by refine Since.out ?_; repeat (first | with_reducible assumption | with_reducible exact Since.refl _ | with_reducible refine Since.later ?_ (by with_reducible assumption) | with_reducible refine Since.only ?_ (by with_reducible assumption) (by first | assumption | omega | (simp; done) | (simp; omega)) | with_reducible refine Since.alloc ?_ _ | with_reducible refine Since.drewN ?_ _ | with_reducible refine Since.drew ?_ | with_reducible refine Since.set ?_ (by first | assumption | omega | (simp; done) | (simp; omega)) _))⟩
      | true =>
        have d14 : w.cell? ⟨g, 14, none⟩ = some (.int .i64 ta) := HB.out.cell 14
        by_cases hat : (2 : Int) = ta
        · have E : Hid (mMovE (⟨⟨⟨ia, oa, ka⟩, ⟨ib, ob, kb⟩, ⟨ic, oc, true⟩, ⟨id, od, kd⟩⟩, lim, L, N, As, ta, tb⟩ : MvS) 2 = 7) := Lib.hid (mMovE_at rfl rfl hat)
          have hat' : ((2 : Int) == ta) = true := by simpa using hat
          clear hat
          go_enter Try.func9, Try.ntmps9
          go_wp2_with fail
          refine (PA.out _).mono ?_
          rintro e w1 ⟨rfl, rfl⟩
          trace "C2"; go_wp2_with fail
          go_ret
          exact ⟨by rw [E.out]; rfl, by rw [mMov_bad (by rw [E.out]; decide)]; exact H.out.same (by refine Since.out ?_; repeat (first | with_reducible assumption | with_reducible exact Since.refl _ | with_reducible refine Since.later ?_ (by with_reducible assumption) | with_reducible refine Since.only ?_ (by with_reducible assumption) (by first | assumption | omega | (simp; done) | (simp; omega)) | with_reducible refine Since.alloc ?_ _ | with_reducible refine Since.drewN ?_ _ | with_reducible refine Since.drew ?_ | with_reducible refine Since.set ?_ (by first | assumption | omega | (simp; done) | (simp; omega)) _))⟩
        have hat' : ((2 : Int) == ta) = false := by simpa using hat
        obtain ⟨was, hwas⟩ : ∃ q, mSq L tb = q := ⟨_, rfl⟩
        obtain ⟨p, hp⟩ : ∃ p, mNx L was = p := ⟨_, rfl⟩
        have E : Hid (mMovE (⟨⟨⟨ia, oa, ka⟩, ⟨ib, ob, kb⟩, ⟨ic, oc, true⟩, ⟨id, od, kd⟩⟩, lim, L, N, As, ta, tb⟩ : MvS) 2 = if mSb L tb = false ∨ p < 0 then 5 else retE L was) := Lib.hid (by rw [mMovE_eq rfl rfl hat]; simp only; rw [hwas, hp])
        have EO : Hid (mMovE (⟨⟨⟨ia, oa, ka⟩, ⟨ib, ob, kb⟩, ⟨ic, oc, true⟩, ⟨id, od, kd⟩⟩, lim, L, N, As, ta, tb⟩ : MvS) 2 = 0 → mMov (⟨⟨⟨ia, oa, ka⟩, ⟨ib, ob, kb⟩, ⟨ic, oc, true⟩, ⟨id, od, kd⟩⟩, lim, L, N, As, ta, tb⟩ : MvS) 2 = { (⟨⟨⟨ia, oa, ka⟩, ⟨ib, ob, kb⟩, ⟨ic, oc, true⟩, ⟨id, od, kd⟩⟩, lim, L, N, As, ta, tb⟩ : MvS) with L := retL L was, ta := 2, tb := (L.getD p.toNat ⟨0, 0⟩).s }) := Lib.hid (fun h => by rw [mMov_ok h]; simp only; rw [hwas, hp])
        have HP : Hid (place (fun d => d.s != was) L 0 = p) := Lib.hid hp
        have hpb := place_bound (p := fun d => d.s != was) (L := L) (k := 0)
        rw [HP.out] at hpb
        rw [hwas] at MS
        have hfew := H.out.iz.few
        have hl2 := H.out.iz.l2
        simp only at hfew hl2
        have IL := Lib.hid (fun W hz => ilive gi bi v lim L N W hz)
        have IR := Lib.hid (fun W (hz : Mz W ⟨g, gi, bi, gp, bp, v⟩ (⟨⟨⟨ia, oa, ka⟩, ⟨ib, ob, kb⟩, ⟨ic, oc, true⟩, ⟨id, od, kd⟩⟩, lim, L, N, As, ta, tb⟩ : MvS)) => (iretire gi bi v lim L N was W hz.iz).mono fun e w' hh => And.intro hh.1 (And.intro (show MLeft W w' ⟨g, gi, bi, gp, bp, v⟩ { (⟨⟨⟨ia, oa, ka⟩, ⟨ib, ob, kb⟩, ⟨ic, oc, true⟩, ⟨id, od, kd⟩⟩, lim, L, N, As, ta, tb⟩ : MvS) with L := retL L was } from hz.ids hh.2) (show Out W w' (gi :: bi :: blocks v) from hh.2.choose_spec.2.1)))
        have FN := Lib.hid (fun A cap (h : Nat) W hc hv => findNot (.slice A L.length cap) L was h W hc hv (by omega))
        rw [HP.out] at FN
        obtain ⟨n, hn⟩ : ∃ n, L.length = n := ⟨_, rfl⟩
        rw [hn] at hpb hfew IL FN
        have HNL := Lib.hid hn
        have hwr : Hid True := Lib.hid trivial
        clear hat hwas hp hn
        go_enter Try.func9, Try.ntmps9
        go_wp2_with fail
        refine (PA.out _).mono ?_
        rintro e w1 ⟨rfl, rfl⟩
        trace "D2"; go_wp2_with fail
        refine (MS.out _ H.out).mono ?_
        rintro e w2 ⟨rfl, hb2⟩
        have hs2 : Since w w2 := hb2
        have hs2a : Since w (w2.alloc (.cells #[.int .i64 was] 3)) := hs2.alloc _
        have m12 : w2.cell? ⟨g, 12, none⟩ = some (.pointer (some ⟨gi, 0, none⟩)) := (HB.out.later hs2).cell 12
        have lg2 : g < w2.heap.size := Nat.lt_of_lt_of_le lg hs2.le
        have HT := Lib.hid (BlockIs.fresh w2 3 #[.int .i64 was])
        clear hb2 d2 d14
        trace "E2"; go_wp2_with fail
        refine (IL.out _ (H.out.later hs2a).iz).mono ?_
        rintro e w3 ⟨A, cap, rfl, hl3, hb3, hk3⟩
        have HT3 := Lib.hid (HT.out.later hb3)
        have hs3 := hs2a.later hb3
        have HL3 := Lib.hid hl3
        have HK3 := Lib.hid hk3
        clear hl3 hb3 hk3 m12
        trace "F2"; go_wp2_with fail
        refine (FN.out A cap w2.heap.size _ (HT3.out.cell 0) HL3.out).mono ?_
        rintro e w4 ⟨rfl, hb4⟩
        have hs4 := hs3.later hb4
        have HT4 := Lib.hid (HT3.out.later hb4)
        have HL4 := Lib.hid (HL3.out.later hb4)
        have HM4 := Lib.hid (H.out.later hs4)
        have hle : w2.heap.size < w4.heap.size := HT4.out.lt
        clear hb4 HL3 HT3
        cases hsb : mSb L tb with
        | false =>
          have E5 := Lib.hid (E.out.trans (if_pos (Or.inl hsb)))
          rw [hsb] at *
          trace "G2"; go_wp2_with fail
          go_ret
          exact ⟨by rw [E5.out]; rfl, by rw [mMov_bad (by rw [E5.out]; decide)]; exact H.out.same hs4⟩
        | true =>
          by_cases hneg : p < 0
          · have E5 := Lib.hid (E.out.trans (if_pos (Or.inr hneg)))
            clear hpb
            trace "H2"; go_wp2_with fail
            go_ret
            exact ⟨by rw [E5.out]; rfl, by rw [mMov_bad (by rw [E5.out]; decide)]; exact H.out.same hs4⟩
          have E6 := Lib.hid (E.out.trans (if_neg (by rw [hsb]; simp; omega)))
          have hneg' : decide (p < 0) = false := by simpa using hneg
          obtain ⟨m, rfl⟩ : ∃ m : Nat, p = m := ⟨p.toNat, by omega⟩
          have hmn : m < n := by omega
          have hmn' : (m : Int) < (n : Int) := by omega
          have c4 : w4.cell? ⟨w2.heap.size, 0, none⟩ = some (.int .i64 was) := HT4.out.cell 0
          have m12 : w4.cell? ⟨g, 12, none⟩ = some (.pointer (some ⟨gi, 0, none⟩)) := HM4.out.bl.cell 12
          have lg4 : g < w4.heap.size := Nat.lt_of_lt_of_le lg hs4.le
          clear hpb hneg E
          trace "I2"; go_wp2_with fail
          go_region_law (go_simp; go_at_call 26; refine (IR.out _ ?_).mono ?_; (first | exact HM4.out | exact HM4.out.drew); rintro e w5 ⟨rfl, hm5, ho5⟩; have HM5 := Lib.hid (MLeft.pre (w := w) (by first | exact hs4 | exact hs4.drew) hm5); have HO5 := Lib.hid (show Out w4 w5 (gi :: bi :: blocks v) from by first | exact ho5 | exact ho5.of_drew); clear hm5 ho5)
          all_goals
            by_cases hr : retE L was = 0
            case neg =>
              rw [errV_pos hr]
              have E7 := Lib.hid (show mMov (⟨⟨⟨ia, oa, ka⟩, ⟨ib, ob, kb⟩, ⟨ic, oc, true⟩, ⟨id, od, kd⟩⟩, lim, L, N, As, ta, tb⟩ : MvS) 2 = _ from mMov_bad (by rw [E6.out]; exact hr))
              have ER := Lib.hid (errV_pos hr)
              have RB := Lib.hid (ret_bad hr)
              clear hr
              trace "J2"; go_wp2_with fail
              go_ret
              refine ⟨by rw [E6.out, ER.out]; rfl, ?_⟩
              rw [E7.out]
              have h9 := HM5.out
              rw [RB.out] at h9
              exact h9
            have E7 := Lib.hid (EO.out (E6.out.trans hr))
            have E8 := Lib.hid (E6.out.trans hr)
            rw [hr, errV_zero]
            obtain ⟨A', cap', hve, _, _, hA⟩ := HL4.out.shape
            simp only [Value.slice.injEq] at hve
            obtain ⟨rfl, hnn, rfl⟩ := hve
            clear hnn
            rcases hA with ⟨_, h0, _⟩ | ⟨q, rfl⟩
            · have : L = [] := by simpa using h0
              have h9 := HNL.out
              rw [this] at h9
              simp at h9
              omega
            have hml : m < L.length := by rw [HNL.out]; exact hmn
            have hq : q ∉ gi :: bi :: blocks v := fun hm => by
              have h1 := HK3.out q (by simp [Value.ownBlock])
              have h2 := H.out.lt q (MvB.inI ⟨g, gi, bi, gp, bp, v⟩ hm)
              have h3 := hs2.le
              rw [World.size_alloc] at h1
              omega
            have HL5 := Lib.hid (HL4.out.kept HO5.out (fun k hk => by
              have hk' : q = k := by simpa [Value.ownBlock] using hk
              exact hk' ▸ hq))
            have q0 : w5.cell? ⟨q, m * 2, none⟩ = some (.int .i64 L[m].s) := HL5.out.cell rfl (elem_of_row hml) (j := 0) rfl
            have lq : q < w5.heap.size := HL5.out.lt q (by simp [Value.ownBlock])
            have HD : Hid ((L.getD (m : Int).toNat ⟨0, 0⟩).s = L[m].s) := Lib.hid (by simp [List.getD, List.getElem?_eq_getElem hml])
            rw [HD.out] at E7
            obtain ⟨ds, hds⟩ : ∃ ds, L[m].s = ds := ⟨_, rfl⟩
            rw [hds] at q0 E7
            have e14 : w5.cell? ⟨g, 14, none⟩ = some (.int .i64 ta) := by
              obtain ⟨v5, hz5, _⟩ := HM5.out; exact hz5.bl.cell 14
            have e15 : w5.cell? ⟨g, 15, none⟩ = some (.int .i64 tb) := by
              obtain ⟨v5, hz5, _⟩ := HM5.out; exact hz5.bl.cell 15
            have l5 : g < w5.heap.size := by
              obtain ⟨v5, hz5, _⟩ := HM5.out; exact hz5.bl.lt
            have f5 : ∀ i, w5.frozen? ⟨g, i, none⟩ = false := by
              obtain ⟨v5, hz5, _⟩ := HM5.out; exact hz5.bl.free
            have hqg : q ≠ g := fun e => by
              have h1 := HK3.out q (by simp [Value.ownBlock])
              rw [World.size_alloc] at h1
              omega
            clear hr hds HD hq hml EO E6
            trace "K2"; go_wp2_with fail
            go_ret
            refine ⟨by rw [E8.out]; rfl, ?_⟩
            rw [E7.out]
            exact HM5.out.put2 2 ds rfl rfl rfl rfl rfl
    · have PA := Lib.hid (fun W => path_any 3 W)
      have d2 : w.cell? ⟨g, 11, none⟩ = some (.bool kd) := HB.out.cell 11
      simp only [show pathB 3 = true from rfl] at PA
      clear hb
      cases kd with
      | false =>
        have E : Hid (mMovE (⟨⟨⟨ia, oa, ka⟩, ⟨ib, ob, kb⟩, ⟨ic, oc, kc⟩, ⟨id, od, false⟩⟩, lim, L, N, As, ta, tb⟩ : MvS) 3 = 6) := Lib.hid rfl
        go_enter Try.func9, Try.ntmps9
        go_wp2_with fail
        refine (PA.out _).mono ?_
        rintro e w1 ⟨rfl, rfl⟩
        trace "B3"; go_wp2_with fail
        go_ret
        exact ⟨by rw [E.out]; rfl, by rw [mMov_bad (by rw [E.out]; decide)]; exact H.out.same (by refine Since.out ?_; repeat (first | with_reducible assumption | with_reducible exact Since.refl _ | with_reducible refine Since.later ?_ (by with_reducible assumption) | with_reducible refine Since.only ?_ (by with_reducible assumption) (by first | assumption | omega | (simp; done) | (simp; omega)) | with_reducible refine Since.alloc ?_ _ | with_reducible refine Since.drewN ?_ _ | with_reducible refine Since.drew ?_ | with_reducible refine Since.set ?_ (by first | assumption | omega | (simp; done) | (simp; omega)) _))⟩
      | true =>
        have d14 : w.cell? ⟨g, 14, none⟩ = some (.int .i64 ta) := HB.out.cell 14
        by_cases hat : (3 : Int) = ta
        · have E : Hid (mMovE (⟨⟨⟨ia, oa, ka⟩, ⟨ib, ob, kb⟩, ⟨ic, oc, kc⟩, ⟨id, od, true⟩⟩, lim, L, N, As, ta, tb⟩ : MvS) 3 = 7) := Lib.hid (mMovE_at rfl rfl hat)
          have hat' : ((3 : Int) == ta) = true := by simpa using hat
          clear hat
          go_enter Try.func9, Try.ntmps9
          go_wp2_with fail
          refine (PA.out _).mono ?_
          rintro e w1 ⟨rfl, rfl⟩
          trace "C3"; go_wp2_with fail
          go_ret
          exact ⟨by rw [E.out]; rfl, by rw [mMov_bad (by rw [E.out]; decide)]; exact H.out.same (by refine Since.out ?_; repeat (first | with_reducible assumption | with_reducible exact Since.refl _ | with_reducible refine Since.later ?_ (by with_reducible assumption) | with_reducible refine Since.only ?_ (by with_reducible assumption) (by first | assumption | omega | (simp; done) | (simp; omega)) | with_reducible refine Since.alloc ?_ _ | with_reducible refine Since.drewN ?_ _ | with_reducible refine Since.drew ?_ | with_reducible refine Since.set ?_ (by first | assumption | omega | (simp; done) | (simp; omega)) _))⟩
        have hat' : ((3 : Int) == ta) = false := by simpa using hat
        obtain ⟨was, hwas⟩ : ∃ q, mSq L tb = q := ⟨_, rfl⟩
        obtain ⟨p, hp⟩ : ∃ p, mNx L was = p := ⟨_, rfl⟩
        have E : Hid (mMovE (⟨⟨⟨ia, oa, ka⟩, ⟨ib, ob, kb⟩, ⟨ic, oc, kc⟩, ⟨id, od, true⟩⟩, lim, L, N, As, ta, tb⟩ : MvS) 3 = if mSb L tb = false ∨ p < 0 then 5 else retE L was) := Lib.hid (by rw [mMovE_eq rfl rfl hat]; simp only; rw [hwas, hp])
        have EO : Hid (mMovE (⟨⟨⟨ia, oa, ka⟩, ⟨ib, ob, kb⟩, ⟨ic, oc, kc⟩, ⟨id, od, true⟩⟩, lim, L, N, As, ta, tb⟩ : MvS) 3 = 0 → mMov (⟨⟨⟨ia, oa, ka⟩, ⟨ib, ob, kb⟩, ⟨ic, oc, kc⟩, ⟨id, od, true⟩⟩, lim, L, N, As, ta, tb⟩ : MvS) 3 = { (⟨⟨⟨ia, oa, ka⟩, ⟨ib, ob, kb⟩, ⟨ic, oc, kc⟩, ⟨id, od, true⟩⟩, lim, L, N, As, ta, tb⟩ : MvS) with L := retL L was, ta := 3, tb := (L.getD p.toNat ⟨0, 0⟩).s }) := Lib.hid (fun h => by rw [mMov_ok h]; simp only; rw [hwas, hp])
        have HP : Hid (place (fun d => d.s != was) L 0 = p) := Lib.hid hp
        have hpb := place_bound (p := fun d => d.s != was) (L := L) (k := 0)
        rw [HP.out] at hpb
        rw [hwas] at MS
        have hfew := H.out.iz.few
        have hl2 := H.out.iz.l2
        simp only at hfew hl2
        have IL := Lib.hid (fun W hz => ilive gi bi v lim L N W hz)
        have IR := Lib.hid (fun W (hz : Mz W ⟨g, gi, bi, gp, bp, v⟩ (⟨⟨⟨ia, oa, ka⟩, ⟨ib, ob, kb⟩, ⟨ic, oc, kc⟩, ⟨id, od, true⟩⟩, lim, L, N, As, ta, tb⟩ : MvS)) => (iretire gi bi v lim L N was W hz.iz).mono fun e w' hh => And.intro hh.1 (And.intro (show MLeft W w' ⟨g, gi, bi, gp, bp, v⟩ { (⟨⟨⟨ia, oa, ka⟩, ⟨ib, ob, kb⟩, ⟨ic, oc, kc⟩, ⟨id, od, true⟩⟩, lim, L, N, As, ta, tb⟩ : MvS) with L := retL L was } from hz.ids hh.2) (show Out W w' (gi :: bi :: blocks v) from hh.2.choose_spec.2.1)))
        have FN := Lib.hid (fun A cap (h : Nat) W hc hv => findNot (.slice A L.length cap) L was h W hc hv (by omega))
        rw [HP.out] at FN
        obtain ⟨n, hn⟩ : ∃ n, L.length = n := ⟨_, rfl⟩
        rw [hn] at hpb hfew IL FN
        have HNL := Lib.hid hn
        have hwr : Hid True := Lib.hid trivial
        clear hat hwas hp hn
        go_enter Try.func9, Try.ntmps9
        go_wp2_with fail
        refine (PA.out _).mono ?_
        rintro e w1 ⟨rfl, rfl⟩
        trace "D3"; go_wp2_with fail
        refine (MS.out _ H.out).mono ?_
        rintro e w2 ⟨rfl, hb2⟩
        have hs2 : Since w w2 := hb2
        have hs2a : Since w (w2.alloc (.cells #[.int .i64 was] 3)) := hs2.alloc _
        have m12 : w2.cell? ⟨g, 12, none⟩ = some (.pointer (some ⟨gi, 0, none⟩)) := (HB.out.later hs2).cell 12
        have lg2 : g < w2.heap.size := Nat.lt_of_lt_of_le lg hs2.le
        have HT := Lib.hid (BlockIs.fresh w2 3 #[.int .i64 was])
        clear hb2 d2 d14
        trace "E3"; go_wp2_with fail
        refine (IL.out _ (H.out.later hs2a).iz).mono ?_
        rintro e w3 ⟨A, cap, rfl, hl3, hb3, hk3⟩
        have HT3 := Lib.hid (HT.out.later hb3)
        have hs3 := hs2a.later hb3
        have HL3 := Lib.hid hl3
        have HK3 := Lib.hid hk3
        clear hl3 hb3 hk3 m12
        trace "F3"; go_wp2_with fail
        refine (FN.out A cap w2.heap.size _ (HT3.out.cell 0) HL3.out).mono ?_
        rintro e w4 ⟨rfl, hb4⟩
        have hs4 := hs3.later hb4
        have HT4 := Lib.hid (HT3.out.later hb4)
        have HL4 := Lib.hid (HL3.out.later hb4)
        have HM4 := Lib.hid (H.out.later hs4)
        have hle : w2.heap.size < w4.heap.size := HT4.out.lt
        clear hb4 HL3 HT3
        cases hsb : mSb L tb with
        | false =>
          have E5 := Lib.hid (E.out.trans (if_pos (Or.inl hsb)))
          rw [hsb] at *
          trace "G3"; go_wp2_with fail
          go_ret
          exact ⟨by rw [E5.out]; rfl, by rw [mMov_bad (by rw [E5.out]; decide)]; exact H.out.same hs4⟩
        | true =>
          by_cases hneg : p < 0
          · have E5 := Lib.hid (E.out.trans (if_pos (Or.inr hneg)))
            clear hpb
            trace "H3"; go_wp2_with fail
            go_ret
            exact ⟨by rw [E5.out]; rfl, by rw [mMov_bad (by rw [E5.out]; decide)]; exact H.out.same hs4⟩
          have E6 := Lib.hid (E.out.trans (if_neg (by rw [hsb]; simp; omega)))
          have hneg' : decide (p < 0) = false := by simpa using hneg
          obtain ⟨m, rfl⟩ : ∃ m : Nat, p = m := ⟨p.toNat, by omega⟩
          have hmn : m < n := by omega
          have hmn' : (m : Int) < (n : Int) := by omega
          have c4 : w4.cell? ⟨w2.heap.size, 0, none⟩ = some (.int .i64 was) := HT4.out.cell 0
          have m12 : w4.cell? ⟨g, 12, none⟩ = some (.pointer (some ⟨gi, 0, none⟩)) := HM4.out.bl.cell 12
          have lg4 : g < w4.heap.size := Nat.lt_of_lt_of_le lg hs4.le
          clear hpb hneg E
          trace "I3"; go_wp2_with fail
          go_region_law (go_simp; go_at_call 26; refine (IR.out _ ?_).mono ?_; (first | exact HM4.out | exact HM4.out.drew); rintro e w5 ⟨rfl, hm5, ho5⟩; have HM5 := Lib.hid (MLeft.pre (w := w) (by first | exact hs4 | exact hs4.drew) hm5); have HO5 := Lib.hid (show Out w4 w5 (gi :: bi :: blocks v) from by first | exact ho5 | exact ho5.of_drew); clear hm5 ho5)
          all_goals
            by_cases hr : retE L was = 0
            case neg =>
              rw [errV_pos hr]
              have E7 := Lib.hid (show mMov (⟨⟨⟨ia, oa, ka⟩, ⟨ib, ob, kb⟩, ⟨ic, oc, kc⟩, ⟨id, od, true⟩⟩, lim, L, N, As, ta, tb⟩ : MvS) 3 = _ from mMov_bad (by rw [E6.out]; exact hr))
              have ER := Lib.hid (errV_pos hr)
              have RB := Lib.hid (ret_bad hr)
              clear hr
              trace "J3"; go_wp2_with fail
              go_ret
              refine ⟨by rw [E6.out, ER.out]; rfl, ?_⟩
              rw [E7.out]
              have h9 := HM5.out
              rw [RB.out] at h9
              exact h9
            have E7 := Lib.hid (EO.out (E6.out.trans hr))
            have E8 := Lib.hid (E6.out.trans hr)
            rw [hr, errV_zero]
            obtain ⟨A', cap', hve, _, _, hA⟩ := HL4.out.shape
            simp only [Value.slice.injEq] at hve
            obtain ⟨rfl, hnn, rfl⟩ := hve
            clear hnn
            rcases hA with ⟨_, h0, _⟩ | ⟨q, rfl⟩
            · have : L = [] := by simpa using h0
              have h9 := HNL.out
              rw [this] at h9
              simp at h9
              omega
            have hml : m < L.length := by rw [HNL.out]; exact hmn
            have hq : q ∉ gi :: bi :: blocks v := fun hm => by
              have h1 := HK3.out q (by simp [Value.ownBlock])
              have h2 := H.out.lt q (MvB.inI ⟨g, gi, bi, gp, bp, v⟩ hm)
              have h3 := hs2.le
              rw [World.size_alloc] at h1
              omega
            have HL5 := Lib.hid (HL4.out.kept HO5.out (fun k hk => by
              have hk' : q = k := by simpa [Value.ownBlock] using hk
              exact hk' ▸ hq))
            have q0 : w5.cell? ⟨q, m * 2, none⟩ = some (.int .i64 L[m].s) := HL5.out.cell rfl (elem_of_row hml) (j := 0) rfl
            have lq : q < w5.heap.size := HL5.out.lt q (by simp [Value.ownBlock])
            have HD : Hid ((L.getD (m : Int).toNat ⟨0, 0⟩).s = L[m].s) := Lib.hid (by simp [List.getD, List.getElem?_eq_getElem hml])
            rw [HD.out] at E7
            obtain ⟨ds, hds⟩ : ∃ ds, L[m].s = ds := ⟨_, rfl⟩
            rw [hds] at q0 E7
            have e14 : w5.cell? ⟨g, 14, none⟩ = some (.int .i64 ta) := by
              obtain ⟨v5, hz5, _⟩ := HM5.out; exact hz5.bl.cell 14
            have e15 : w5.cell? ⟨g, 15, none⟩ = some (.int .i64 tb) := by
              obtain ⟨v5, hz5, _⟩ := HM5.out; exact hz5.bl.cell 15
            have l5 : g < w5.heap.size := by
              obtain ⟨v5, hz5, _⟩ := HM5.out; exact hz5.bl.lt
            have f5 : ∀ i, w5.frozen? ⟨g, i, none⟩ = false := by
              obtain ⟨v5, hz5, _⟩ := HM5.out; exact hz5.bl.free
            have hqg : q ≠ g := fun e => by
              have h1 := HK3.out q (by simp [Value.ownBlock])
              rw [World.size_alloc] at h1
              omega
            clear hr hds HD hq hml EO E6
            trace "K3"; go_wp2_with fail
            go_ret
            refine ⟨by rw [E8.out]; rfl, ?_⟩
            rw [E7.out]
            exact HM5.out.put2 3 ds rfl rfl rfl rfl rfl
end Go.Proofs.Ythnolkbolmbkdaa
