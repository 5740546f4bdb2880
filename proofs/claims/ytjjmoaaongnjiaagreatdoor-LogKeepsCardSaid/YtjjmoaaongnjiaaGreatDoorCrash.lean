/- log.Crash, Fail, Sync and All by contracts; what a log holds in plain words. Condition: the block holds a Log whose bytes are records and a part of one. -/
import Derived.Test.YtjjmoaaongnjiaaGreatDoorRedo
import Derived.BigRegion
import Derived.Deep.QuietTactic
import Derived.BigQuiet
import Derived.Deep.DeepCutAuto
namespace Go.Proofs.YtjjmoaaongnjiaaGreatDoor
open Go.ChangeShapes Go.WideShapes Go.ChangeAt Go.RowKit
set_option linter.unusedVariables false

/-- a log's bytes: whole records, then a part of one -/
structure LgOk (s : LgS) (ns : List Int) (t : List UInt8) : Prop where
  by_ : s.by_.data.toList = rcs ns ++ t
  nl : noNl t
  all : s.all = adds ns
  fit : Fits ns
  s0 : 0 ≤ s.safe
  s1 : s.safe ≤ (rcs ns).length
  nt : s.st = false → t = []
  tl : t.length ≤ 11
  nn : ns.length ≤ 50000
theorem rcs_few {ns : List Int} (h : Fits ns) : (rcs ns).length ≤ 11 * ns.length := by
  have hp := h.pos
  clear h
  induction ns with
  | nil => simp [rcs]
  | cons n ns ih =>
    have h1 := ih (fun m hm => hp m (by simp [hm]))
    have h2 := hp n (by simp)
    have h3 := ita_size h2.1 h2.2
    have e : (ita n).size = (Lib.itoa n).length := str_of
    rw [rcs_cons, List.length_append, rcb_len, List.length_cons]
    omega
theorem LgOk.few {s : LgS} {ns : List Int} {t : List UInt8} (h : LgOk s ns t) : s.by_.size ≤ 1000000 := by
  have h1 := rcs_few h.fit
  have h2 : s.by_.data.toList.length = s.by_.size := Array.length_toList
  have h3 := h.tl
  have h4 := h.nn
  rw [h.by_, List.length_append] at h2
  omega
/-- how far the bytes go on when it crashes -/
def LgS.high (s : LgS) (keep : Int) : Int := s.safe + max 0 (min keep (s.by_.size - s.safe))
/-- the records that are whole among so many bytes -/
structure Whole (ns : List Int) (h : Int) (j : Nat) : Prop where
  le : j ≤ ns.length
  in_ : ((rcs (ns.take j)).length : Int) ≤ h
  most : ∀ i, i ≤ ns.length → ((rcs (ns.take i)).length : Int) ≤ h → i ≤ j
theorem rcs_mono (ns : List Int) {i j : Nat} (h : i < j) (hj : j ≤ ns.length) : (rcs (ns.take i)).length < (rcs (ns.take j)).length := by
  obtain ⟨d, rfl⟩ : ∃ d, j = i + 1 + d := ⟨j - (i + 1), by omega⟩
  have e : ns.take (i + 1 + d) = ns.take i ++ (ns.getD i 0 :: (ns.drop (i + 1)).take d) := by
    rw [List.take_add, List.take_succ_eq_append_getElem (by omega), List.append_assoc]
    simp [List.getD, List.getElem?_eq_getElem (show i < ns.length by omega)]
  rw [e, rcs_app, rcs_cons, List.length_append, List.length_append, rcb_len]
  omega
theorem Fits.take {ns : List Int} (h : Fits ns) (j : Nat) : Fits (ns.take j) := by
  intro k hk
  rw [List.length_take] at hk
  have h1 := h k (by omega)
  have e1 : (ns.take j).take k = ns.take k := by rw [List.take_take]; congr 1; omega
  have e2 : (ns.take j).getD k 0 = ns.getD k 0 := by
    simp only [List.getD]
    rw [List.getElem?_take_of_lt (by omega)]
  rw [e1, e2]
  exact h1
/-- what is left of the bytes -/
theorem cut_bytes {s : LgS} {ns : List Int} {t : List UInt8} (h : LgOk s ns t) {m : Nat} (hm : m ≤ s.by_.size) : ∃ j t', Whole ns m j ∧ s.by_.data.toList.take m = rcs (ns.take j) ++ t' ∧ noNl t' := by
  have hpos : ∀ n ∈ ns, 0 ≤ n := fun n hn => (h.fit.pos n hn).1
  by_cases hle : m ≤ (rcs ns).length
  · obtain ⟨j, t', h1, h2, h3, h4⟩ := rcs_take ns hpos m hle
    have hlen : m = (rcs (ns.take j)).length + t'.length := by
      have := congrArg List.length h2
      rw [List.length_take, List.length_append] at this
      omega
    refine ⟨j, t', ⟨h1, by omega, fun i hi hc => ?_⟩, by rw [h.by_, List.take_append_of_le_length hle]; exact h2, h3⟩
    rcases Nat.lt_or_ge j i with hlt | hge
    · exfalso
      have hj : j < ns.length := by omega
      have h5 := h4 hj
      have h6 : (rcs (ns.take (j + 1))).length = (rcs (ns.take j)).length + (rcb (ns.getD j 0)).length := by
        rw [List.take_succ_eq_append_getElem hj, rcs_app, rcs_cons, rcs_nil, List.append_nil, List.length_append]
        simp [List.getD, List.getElem?_eq_getElem hj]
      have h7 : (rcs (ns.take (j + 1))).length ≤ (rcs (ns.take i)).length := by
        rcases Nat.lt_or_ge (j + 1) i with h8 | h8
        · exact Nat.le_of_lt (rcs_mono ns h8 hi)
        · have : i = j + 1 := by omega
          subst this; exact Nat.le_refl _
      omega
    · exact hge
  · refine ⟨ns.length, t.take (m - (rcs ns).length), ⟨Nat.le_refl _, by rw [List.take_length]; omega, fun i hi _ => hi⟩, ?_, fun b hb => h.nl b (List.mem_of_mem_take hb)⟩
    rw [h.by_, List.take_append, List.take_of_length_le (by omega), List.take_length]
theorem redoC (ns : List Int) (hfit : Fits ns) (hb : (rcs ns).length ≤ 1000000) (w : World) :
    Calls Tryz.prog 23 #[.string ⟨(rcs ns).toArray⟩] w fun e w' => ∃ A cap, e = .returned (.tuple #[.slice A (adds ns).length cap, .nilIface]) ∧ Lst w' 34 2 (.slice A (adds ns).length cap) ((adds ns).map rngRow) ∧ Below w.heap.size w w' ∧ (∀ q, q ∈ blocks (.slice A 0 0) → w.heap.size ≤ q) :=
  callsIn_wide.1 (redo_in ns hfit hb w)
/-- behind a crash -/
def LgS.left_ (ns : List Int) : LgS := ⟨adds ns, ⟨(rcs ns).toArray⟩, ((rcs ns).length : Int), -1, false⟩
set_option maxHeartbeats 3200000 in
set_option maxRecDepth 100000 in
theorem gcrash (g : Nat) (s : LgS) (ns : List Int) (t : List UInt8) (keep : Int) (w : World) (S : List Nat) (h : (logT g s).is w S) (ok : LgOk s ns t) :
    Calls Tryz.prog 8 #[.pointer (some ⟨g, 0, none⟩), .int .i64 keep] w fun e w' => e = .returned (.tuple #[]) ∧ ∃ j, Whole ns (s.high keep) j ∧ Leaves w w' S (logT g (LgS.left_ (ns.take j))) := by
  obtain ⟨v, hz, rfl⟩ := h
  have HZ := Lib.hid hz
  have c1 : w.cell? ⟨g, 1, none⟩ = some (.string s.by_) := hz.bl.cell 1
  have c2 : w.cell? ⟨g, 2, none⟩ = some (.int .i64 s.safe) := hz.bl.cell 2
  have lg := hz.bl.lt
  have hs1 : s.safe ≤ (s.by_.size : Int) := by
    have h1 := ok.s1
    have h2 : s.by_.data.toList.length = s.by_.size := Array.length_toList
    rw [ok.by_, List.length_append] at h2
    omega
  have hs0 := ok.s0
  have hfw := ok.few
  obtain ⟨m, hm⟩ : ∃ m : Nat, s.high keep = m := ⟨(s.high keep).toNat, by unfold LgS.high; omega⟩
  have hmle : m ≤ s.by_.size := by unfold LgS.high at hm; omega
  obtain ⟨j, t', w1, w2, w3⟩ := cut_bytes ok hmle
  have HW : Hid (Whole ns (s.high keep) j) := Lib.hid (by rw [hm]; exact w1)
  obtain ⟨B, hB⟩ : ∃ B, s.by_.extract 0 m = B := ⟨_, rfl⟩
  have eB : B.data.toList = rcs (ns.take j) ++ t' := by rw [← hB, cut_list, List.drop_zero]; exact w2
  have HI : Hid (Lib.lastIndex B.data.toList (⟨#[10]⟩ : ByteArray).data.toList = ((rcs (ns.take j)).length : Int) - 1) := Lib.hid (by
    have := rcs_last (ns.take j) t' w3
    rw [← eB] at this
    have e2 : (⟨#[10]⟩ : ByteArray).data.toList = [10] := rfl
    rw [e2]; omega)
  have hBz : B.size = m := by rw [← hB, ByteArray.size_extract]; omega
  have hnz : (rcs (ns.take j)).length ≤ B.size := by
    have h2 : B.data.toList.length = B.size := Array.length_toList
    rw [eB, List.length_append] at h2
    omega
  have HX : Hid (B.extract 0 (rcs (ns.take j)).length = ⟨(rcs (ns.take j)).toArray⟩) := Lib.hid (by
    apply ByteArray.ext
    apply Array.ext'
    rw [cut_list, eB, List.drop_zero, List.take_append_of_le_length (Nat.le_refl _), List.take_of_length_le (Nat.le_refl _)])
  have HRD := Lib.hid (fun X => redoC (ns.take j) (ok.fit.take j) (by omega) X)
  have HRG : Hid (rngE (adds (ns.take j)) = 0) := Lib.hid (ok.fit.rng j w1.le)
  have HBX := Lib.hid hB
  have HMM : Hid (s.safe + max 0 (min keep ((s.by_.size : Int) - s.safe)) = (m : Int)) := Lib.hid hm
  have HLS := Lib.hid (fun X => Tryz.strings_LastIndex B ⟨#[10]⟩ (by omega) X)
  rw [HI.out] at HLS
  suffices hmain : Calls Tryz.prog 8 #[.pointer (some ⟨g, 0, none⟩), .int .i64 keep] w fun e w' => e = .returned (.tuple #[]) ∧ Leaves w w' (g :: blocks v) (logT g (LgS.left_ (ns.take j))) from hmain.mono fun e w' hh => ⟨hh.1, j, HW.out, hh.2⟩
  unfold LgS.left_
  generalize ns.take j = ns2 at *
  obtain ⟨q, hq⟩ : ∃ q, (rcs ns2).length = q := ⟨_, rfl⟩
  rw [hq] at hnz HX HLS
  rw [hq]
  have HQ := Lib.hid hq
  have hbz : s.by_.size ≤ 1000000 := hfw
  generalize s.by_ = by_ at *
  generalize s.safe = sf at *
  clear hz w1 w2 w3 hm eB hB HI hfw ok hq
  go_enter Tryz.func8, Tryz.ntmps8
  trace "A"; go_upto_region 0 with fail
  go_cut [4] (fun s4 wx => s4 = .string B ∧ ∃ n, wx = w.drewN n)
  case first =>
    have hd0 : (0 : Int) ≤ (by_.size : Int) - sf := by omega
    have hd1 : (by_.size : Int) - sf ≤ 1000000 := by omega
    trace "B"; go_quiet (fail)
    trace "C"; go_wp2_with fail
    go_meet
    case rel => exact ⟨by rw [HMM.out, Int.toNat_natCast, HBX.out], nq, rfl⟩
  case rest =>
    obtain ⟨rfl, n, rfl⟩ := hcut
    have hq0 : (0 : Int) ≤ (q : Int) := by omega
    have hq1 : (q : Int) ≤ (B.size : Int) := by omega
    have hq2 : (B.size : Int) ≤ 1000000 := by omega
    have HZ2 := Lib.hid (HZ.out.later (show Since w (w.drewN n) from (by refine Since.out ?_; repeat (first | with_reducible assumption | with_reducible exact Since.refl _ | with_reducible refine Since.later ?_ (by with_reducible assumption) | with_reducible refine Since.only ?_ (by with_reducible assumption) (by first | assumption | omega | (simp; done) | (simp; omega)) | with_reducible refine Since.alloc ?_ _ | with_reducible refine Since.drewN ?_ _ | with_reducible refine Since.drew ?_ | with_reducible refine Since.set ?_ (by first | assumption | omega | (simp; done) | (simp; omega)) _))))
    have HSN : Hid (Since w (w.drewN n)) := Lib.hid (by refine Since.out ?_; repeat (first | with_reducible assumption | with_reducible exact Since.refl _ | with_reducible refine Since.later ?_ (by with_reducible assumption) | with_reducible refine Since.only ?_ (by with_reducible assumption) (by first | assumption | omega | (simp; done) | (simp; omega)) | with_reducible refine Since.alloc ?_ _ | with_reducible refine Since.drewN ?_ _ | with_reducible refine Since.drew ?_ | with_reducible refine Since.set ?_ (by first | assumption | omega | (simp; done) | (simp; omega)) _))
    have lg2 := HZ2.out.bl.lt
    generalize w.drewN n = w2 at *
    clear c1 c2 HMM HBX
    trace "D"; go_wp2_with fail
    refine (HLS.out _).mono ?_
    rintro e w3 ⟨rfl, rfl⟩
    trace "E"; go_wp2_with fail
    rw [HX.out]
    refine (HRD.out _).mono ?_
    rintro e w4 ⟨A, cap, rfl, hl4, hb4, hk4⟩
    have hz4 := HZ2.out.later hb4
    have d0 : w4.cell? ⟨g, 0, none⟩ = some v := hz4.bl.cell 0
    have d1 := hz4.bl.cell 1
    have d2 := hz4.bl.cell 2
    have d3 := hz4.bl.cell 3
    have d4 := hz4.bl.cell 4
    have lg4 := hz4.bl.lt
    have fg4 := hz4.bl.free
    have HZ4 := Lib.hid hz4
    have HL4 := Lib.hid hl4
    have HB4 := Lib.hid hb4
    have HK4 := Lib.hid hk4
    clear hz4 hl4 hb4 hk4 HLS HRD
    trace "F"; go_wp2_with fail
    rw [HQ.out]
    go_end0
    refine ⟨rfl, ?_⟩
    have hap : g ∉ blocks (.slice A (adds ns2).length cap) := HL4.out.apart HZ4.out.bl (by decide)
    obtain ⟨X, hX⟩ : ∃ X, ((((w4.setCell ⟨g, 0, none⟩ (.slice A (adds ns2).length cap)).setCell ⟨g, 1, none⟩ (.string ⟨(rcs ns2).toArray⟩)).setCell ⟨g, 2, none⟩ (.int .i64 (q : Int))).setCell ⟨g, 3, none⟩ (.int .i64 (-1))).setCell ⟨g, 4, none⟩ (.bool false) = X := ⟨_, rfl⟩
    rw [hX]
    have xo : Out w4 X [g] := by
      rw [← hX]
      exact (((((Out.refl w4 [g]).put (p := ⟨g, 0, none⟩) (Or.inl (by simp)) _).put (p := ⟨g, 1, none⟩) (Or.inl (by simp)) _).put (p := ⟨g, 2, none⟩) (Or.inl (by simp)) _).put (p := ⟨g, 3, none⟩) (Or.inl (by simp)) _).put (p := ⟨g, 4, none⟩) (Or.inl (by simp)) _
    have xb : BlockIs X g 45 #[.slice A (adds ns2).length cap, .string ⟨(rcs ns2).toArray⟩, .int .i64 (q : Int), .int .i64 (-1), .bool false] := by
      rw [← hX]
      exact ((((HZ4.out.bl.put 0 _).put 1 _).put 2 _).put 3 _).put 4 _
    have xl := HL4.out.kept xo (fun k hk hm => hap ((List.mem_singleton.1 hm) ▸ hk))
    have hw4 : Below w.heap.size w w4 := Since.later HSN.out HB4.out
    refine ⟨g :: blocks (.slice A (adds ns2).length cap), ⟨.slice A (adds ns2).length cap, ⟨xb, xl, HRG.out, by show (-1 : Int) ≤ -1; decide, by show (-1 : Int) ≤ 9223372036854775807; decide⟩, rfl⟩, (Out.of_below hw4 _).then' xo (fun k hk => Or.inl (by rw [List.mem_singleton.1 hk]; simp)), fun k hk => ?_⟩
    rcases List.mem_cons.1 hk with rfl | hk
    · exact Or.inl (by simp)
    · exact Or.inr (Nat.le_trans (Since.le HSN.out) (HK4.out k (blocks_zero' hk)))
theorem LgS.left_ok {ns : List Int} (hf : Fits ns) (hb : ns.length ≤ 50000) : LgOk (LgS.left_ ns) ns [] :=
  ⟨by show (⟨(rcs ns).toArray⟩ : ByteArray).data.toList = _; simp, by intro b hb; simp at hb, rfl, hf, by show (0 : Int) ≤ ((rcs ns).length : Int); omega, Int.le_refl _, fun _ => rfl, by simp, hb⟩
/-- Fail -/
def LgS.fail (s : LgS) (n : Int) : LgS := { s with left := max (-1) n }
theorem gfail (g : Nat) (s : LgS) (n : Int) (hn : n ≤ 9223372036854775807) (w : World) (S : List Nat) (h : (logT g s).is w S) :
    Calls Tryz.prog 12 #[.pointer (some ⟨g, 0, none⟩), .int .i64 n] w fun e w' => e = .returned (.tuple #[]) ∧ Leaves w w' S (logT g (s.fail n)) := by
  obtain ⟨v, hz, rfl⟩ := h
  have HZ := Lib.hid hz
  have c3 := hz.bl.cell 3
  have lg := hz.bl.lt
  have fg := hz.bl.free
  have HM : Hid (∀ m, m = max (-1) n → Leaves w (w.setCell ⟨g, 3, none⟩ (.int .i64 m)) (g :: blocks v) (logT g (s.fail n))) := Lib.hid (fun m hm => by
    subst hm
    exact hz.leaves (s' := s.fail n) (hz.bl.put 3 _) ((Out.refl w [g]).put (p := ⟨g, 3, none⟩) (Or.inl (by simp)) _) rfl (by show -1 ≤ max (-1) n; omega) (by show max (-1) n ≤ _; omega))
  clear hz
  go_enter Tryz.func12, Tryz.ntmps12
  go_wp2_with fail
  go_end0
  exact ⟨rfl, HM.out _ rfl⟩
/-- Sync -/
def LgS.syncE (s : LgS) : Int := if s.st = true ∨ s.left = 0 then 6 else 0
def LgS.sync (s : LgS) : LgS := if s.st = true then s else if s.left = 0 then s.step else { s.step with safe := s.by_.size }
set_option maxHeartbeats 1600000 in
theorem gsync (g : Nat) (s : LgS) (w : World) (S : List Nat) (h : (logT g s).is w S) :
    Calls Tryz.prog 7 #[.pointer (some ⟨g, 0, none⟩)] w fun e w' => e = .returned (errV s.syncE) ∧ Leaves w w' S (logT g s.sync) := by
  have HS0 := Lib.hid h
  obtain ⟨v, hz, rfl⟩ := h
  have HZ := Lib.hid hz
  have c4 : w.cell? ⟨g, 4, none⟩ = some (.bool s.st) := hz.bl.cell 4
  have lg := hz.bl.lt
  clear hz
  cases hst : s.st with
  | true =>
    have HE : Hid (s.syncE = 6 ∧ s.sync = s) := Lib.hid ⟨by unfold LgS.syncE; rw [if_pos (Or.inl hst)], by unfold LgS.sync; rw [if_pos hst]⟩
    rw [hst] at c4
    rw [HE.out.1, HE.out.2]
    clear hst
    go_enter Tryz.func7, Tryz.ntmps7
    go_wp2_with fail
    go_ret
    exact ⟨rfl, Leaves.same HS0.out (Below.refl _ _)⟩
  | false =>
    rw [hst] at c4
    have HST := Lib.hid hst
    clear hst
    by_cases h0 : s.left = 0
    · have HE : Hid (s.syncE = 6 ∧ s.sync = s.step) := Lib.hid ⟨by unfold LgS.syncE; rw [if_pos (Or.inr h0)], by unfold LgS.sync; rw [if_neg (by rw [HST.out]; decide), if_pos h0]⟩
      have hd : decide (s.left = 0) = true := by simpa using h0
      rw [HE.out.1, HE.out.2]
      clear h0
      go_enter Tryz.func7, Tryz.ntmps7
      go_wp2_with fail
      refine (gstep g v s _ HZ.out).mono ?_
      rintro e w3 ⟨rfl, hz3, ho3⟩
      rw [hd]
      have HL : Hid (Leaves w w3 (g :: blocks v) (logT g s.step)) := Lib.hid ⟨g :: blocks v, ⟨v, hz3, rfl⟩, ho3.mono (fun k hk => Or.inl (by rw [List.mem_singleton.1 hk]; simp)), fun k hk => Or.inl hk⟩
      clear hz3 ho3 hd
      go_wp2_with fail
      go_ret
      exact ⟨rfl, HL.out⟩
    · have HE : Hid (s.syncE = 0 ∧ s.sync = { s.step with safe := s.by_.size }) := Lib.hid ⟨by unfold LgS.syncE; rw [if_neg (by rw [HST.out]; simp [h0])], by unfold LgS.sync; rw [if_neg (by rw [HST.out]; decide), if_neg h0]⟩
      have hd : decide (s.left = 0) = false := by simpa using h0
      rw [HE.out.1, HE.out.2, errV_zero]
      obtain ⟨sy, hsy⟩ : ∃ sy, ({ s.step with safe := (s.by_.size : Int) } : LgS) = sy := ⟨_, rfl⟩
      have HSY := Lib.hid hsy
      rw [hsy]
      clear h0 hsy HE
      go_enter Tryz.func7, Tryz.ntmps7
      go_wp2_with fail
      refine (gstep g v s _ HZ.out).mono ?_
      rintro e w3 ⟨rfl, hz3, ho3⟩
      rw [hd]
      have d1 : w3.cell? ⟨g, 1, none⟩ = some (.string s.by_) := hz3.bl.cell 1
      have d2 := hz3.bl.cell 2
      have lg3 := hz3.bl.lt
      have fg3 := hz3.bl.free
      have HL : Hid (Leaves w (w3.setCell ⟨g, 2, none⟩ (.int .i64 (s.by_.size : Int))) (g :: blocks v) (logT g { s.step with safe := s.by_.size })) := Lib.hid (Leaves.out (ho3.mono (fun k hk => Or.inl (by rw [List.mem_singleton.1 hk]; simp))) (hz3.leaves (s' := { s.step with safe := s.by_.size }) (hz3.bl.put 2 _) ((Out.refl w3 [g]).put (p := ⟨g, 2, none⟩) (Or.inl (by simp)) _) rfl hz3.l1 hz3.l2))
      rw [HSY.out] at HL
      clear HSY
      generalize s.by_ = by_ at *
      clear hz3 ho3 hd
      go_wp2_with fail
      go_ret
      exact ⟨rfl, HL.out⟩
end Go.Proofs.YtjjmoaaongnjiaaGreatDoor
