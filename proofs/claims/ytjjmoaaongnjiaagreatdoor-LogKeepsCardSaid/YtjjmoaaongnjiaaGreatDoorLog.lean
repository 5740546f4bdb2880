/- Contracts of package log: New, step, Came, Bytes. Condition: the block holds a Log as New and the calls leave it; its bytes are few; the table of powers lies there. -/
import Derived.Test.YtjjmoaaongnjiaaGreatDoorItoa
import Derived.Test.YtjjmoaaongnjiaaGreatDoorRngAll
import Derived.Test.YtjjmoaaongnjiaaGreatDoorOwn
namespace Go.Proofs.YtjjmoaaongnjiaaGreatDoor
open Go.ChangeShapes Go.WideShapes Go.ChangeAt Go.RowKit
set_option linter.unusedVariables false

/-- what a Log holds -/
structure LgS where
  all : List Rng
  by_ : ByteArray
  safe : Int
  left : Int
  st : Bool
structure Lz (w : World) (g : Nat) (v : Value) (s : LgS) : Prop where
  bl : BlockIs w g 45 #[v, .string s.by_, .int .i64 s.safe, .int .i64 s.left, .bool s.st]
  ls : Lst w 34 2 v (s.all.map rngRow)
  ok : rngE s.all = 0
  l1 : -1 ≤ s.left
  l2 : s.left ≤ 9223372036854775807
theorem Lz.later {w w' : World} {g : Nat} {v : Value} {s : LgS} (h : Lz w g v s) (hb : Below w.heap.size w w') : Lz w' g v s := ⟨h.bl.later hb, h.ls.later hb, h.ok, h.l1, h.l2⟩
theorem Lz.apart {w : World} {g : Nat} {v : Value} {s : LgS} (h : Lz w g v s) : g ∉ blocks v := h.ls.apart h.bl (by decide)
/-- a Log at g -/
def logT (g : Nat) (s : LgS) : Thing where
  is w S := ∃ v, Lz w g v s ∧ S = g :: blocks v
  lt h k hk := by
    obtain ⟨v, hz, rfl⟩ := h
    rcases List.mem_cons.1 hk with rfl | hk
    · exact hz.bl.lt
    · exact hz.ls.lt k hk
  kept h ho hd := by
    obtain ⟨v, hz, rfl⟩ := h
    exact ⟨v, ⟨ho.block' hz.bl (hd _ (by simp)), hz.ls.kept ho (fun k hk => hd k (List.mem_cons_of_mem _ hk)), hz.ok, hz.l1, hz.l2⟩, rfl⟩
/-- its own block alone was written -/
theorem Lz.leaves {w w' : World} {g : Nat} {v : Value} {s s' : LgS} (h : Lz w g v s) (hb : BlockIs w' g 45 #[v, .string s'.by_, .int .i64 s'.safe, .int .i64 s'.left, .bool s'.st]) (ho : Out w w' [g]) (e : s'.all = s.all) (l1 : -1 ≤ s'.left) (l2 : s'.left ≤ 9223372036854775807) : Leaves w w' (g :: blocks v) (logT g s') :=
  ⟨g :: blocks v, ⟨v, ⟨hb, by rw [e]; exact h.ls.kept ho (fun k hk hm => h.apart ((List.mem_singleton.1 hm) ▸ hk)), by rw [e]; exact h.ok, l1, l2⟩, rfl⟩, ho.mono (fun k hk => Or.inl (by rw [List.mem_singleton.1 hk]; simp)), fun k hk => Or.inl hk⟩
def lg0 : LgS := ⟨[], ⟨#[]⟩, 0, -1, false⟩
theorem gnew (w : World) : Calls Tryz.prog 5 #[] w fun e w' => e = .returned (.pointer (some ⟨w.heap.size, 0, none⟩)) ∧ (logT w.heap.size lg0).is w' [w.heap.size] ∧ Below w.heap.size w w' := by
  go_enter Tryz.func5, Tryz.ntmps5
  go_wp2_with fail
  go_ret
  exact ⟨rfl, ⟨.slice none 0 0, ⟨BlockIs.fresh _ _ _, Lst.nil _ _ _, rfl, by decide, by decide⟩, rfl⟩, (by refine Since.out ?_; repeat (first | with_reducible assumption | with_reducible exact Since.refl _ | with_reducible refine Since.later ?_ (by with_reducible assumption) | with_reducible refine Since.only ?_ (by with_reducible assumption) (by first | assumption | omega | (simp; done) | (simp; omega)) | with_reducible refine Since.alloc ?_ _ | with_reducible refine Since.drewN ?_ _ | with_reducible refine Since.drew ?_ | with_reducible refine Since.set ?_ (by first | assumption | omega | (simp; done) | (simp; omega)) _))⟩
/-- one step more -/
def LgS.step (s : LgS) : LgS := { s with st := decide (s.left = 0), left := max (-1) (s.left - 1) }
theorem gstep (g : Nat) (v : Value) (s : LgS) (w : World) (h : Lz w g v s) : Calls Tryz.prog 21 #[.pointer (some ⟨g, 0, none⟩)] w fun e w' => e = .returned (.bool (decide (s.left = 0))) ∧ Lz w' g v s.step ∧ Out w w' [g] := by
  have H := Lib.hid h
  have c3 : w.cell? ⟨g, 3, none⟩ = some (.int .i64 s.left) := h.bl.cell 3
  have c4 : w.cell? ⟨g, 4, none⟩ = some (.bool s.st) := h.bl.cell 4
  have l1 := h.l1
  have l2 := h.l2
  have lg := h.bl.lt
  have fg := h.bl.free
  have HM : Hid (∀ b m, b = decide (s.left = 0) → m = max (-1) (s.left - 1) → Lz (((w.setCell ⟨g, 4, none⟩ (.bool b))).setCell ⟨g, 3, none⟩ (.int .i64 m)) g v s.step ∧ Out w (((w.setCell ⟨g, 4, none⟩ (.bool b))).setCell ⟨g, 3, none⟩ (.int .i64 m)) [g]) := Lib.hid (fun b m hb hm => by
    subst hb hm
    have ho : Out w (((w.setCell ⟨g, 4, none⟩ (.bool (decide (s.left = 0))))).setCell ⟨g, 3, none⟩ (.int .i64 (max (-1) (s.left - 1)))) [g] := ((Out.refl w [g]).put (p := ⟨g, 4, none⟩) (Or.inl (by simp)) _).put (p := ⟨g, 3, none⟩) (Or.inl (by simp)) _
    exact ⟨⟨(h.bl.put 4 _).put 3 _, h.ls.kept ho (fun k hk hm => h.apart ((List.mem_singleton.1 hm) ▸ hk)), h.ok, by show -1 ≤ max (-1) (s.left - 1); omega, by show max (-1) (s.left - 1) ≤ _; omega⟩, ho⟩)
  generalize s.left = x at *
  generalize s.st = b at *
  clear h
  by_cases h0 : x = 0
  · subst h0
    go_enter Tryz.func21, Tryz.ntmps21
    trace "A"; go_wp2_with fail
    go_ret
    exact ⟨rfl, HM.out _ _ rfl rfl⟩
  · have h0' : (x == 0) = false := by simpa using h0
    have hd : decide (x = 0) = false := by simpa using h0
    rw [hd] at HM ⊢
    by_cases hx : x = -1
    · subst hx
      clear h0 hd
      go_enter Tryz.func21, Tryz.ntmps21
      trace "B"; go_wp2_with fail
      go_ret
      exact ⟨rfl, HM.out _ _ rfl rfl⟩
    · have hp : 0 ≤ x - 1 := by omega
      clear h0 hd hx
      go_enter Tryz.func21, Tryz.ntmps21
      trace "C"; go_wp2_with fail
      go_ret
      exact ⟨rfl, HM.out _ _ rfl rfl⟩
theorem blocks_zero' {A : Option Addr} {n c k : Nat} (h : k ∈ blocks (.slice A n c)) : k ∈ blocks (.slice A 0 0) := by cases A <;> exact h
theorem Leaves.drew' {w w' : World} {S : List Nat} {t : Thing} (h : Leaves w w' S t) : Leaves w w'.drew S t := h.post (Since.refl w').drew
/-- a record -/
def rec_ (n : Int) : ByteArray := ita n ++ ⟨#[10]⟩
def half (n : Int) : ByteArray := (rec_ n).extract 0 ((rec_ n).size / 2)
theorem rec_size {n : Int} (h0 : 0 ≤ n) (h1 : n ≤ 1073741823) : 2 ≤ (rec_ n).size ∧ (rec_ n).size ≤ 11 := by
  have := ita_size h0 h1
  have e : (rec_ n).size = (ita n).size + 1 := by unfold rec_; rw [ByteArray.size_append]; rfl
  omega
/-- what is wrong with a number that came -/
def lgE (s : LgS) (n : Int) : Int := if s.st = true then 6 else if addE s.all n = 0 then (if addB s.all n = true ∧ s.left = 0 then 6 else 0) else addE s.all n
def lgB (s : LgS) (n : Int) : Bool := !s.st && addB s.all n && decide (s.left ≠ 0)
def lgN (s : LgS) (n : Int) : LgS := if s.st = true then s else if addB s.all n = true then (if s.left = 0 then { s.step with by_ := s.by_ ++ half n } else { s.step with by_ := s.by_ ++ rec_ n, all := addL s.all n }) else s
theorem addB_ok {L : List Rng} {n : Int} (h : addB L n = true) : addE L n = 0 ∧ mayB n = true ∧ inB L n = false ∧ rngE (addL L n) = 0 ∧ addL L n = withL L ⟨n, n⟩ := by
  unfold addB at h
  simp only [Bool.and_eq_true, decide_eq_true_eq, Bool.not_eq_true'] at h
  obtain ⟨h1, h2⟩ := h
  have h0 := h1
  unfold addE at h1
  split at h1
  · rename_i hE
    split at h1
    · rename_i hm
      split at h1
      · cases h1
      · rename_i h12
        have e : addL L n = withL L ⟨n, n⟩ := by unfold addL; rw [if_pos h0]
        refine ⟨h0, hm, h2, ?_, e⟩
        rw [e]
        exact canon_rngE (withL_ok (rngE_canon hE) (Int.le_refl n)).1 (by omega) (withL_bound (rngE_ok hE) ⟨mayB_iff.1 hm, mayB_iff.1 hm⟩)
    · cases h1
  · rename_i hE; exact absurd h1 hE
set_option maxHeartbeats 3200000 in
set_option maxRecDepth 100000 in
theorem gcame (g : Nat) (s : LgS) (n : Int) (w : World) (S : List Nat) (h : (logT g s).is w S) (hw : (Lit.int .i64 n).wf = true) (hp : PTab w) (hb : s.by_.size ≤ 1000000) :
    Calls Tryz.prog 6 #[.pointer (some ⟨g, 0, none⟩), .int .i64 n] w fun e w' => e = .returned (.tuple #[.bool (lgB s n), errV (lgE s n)]) ∧ Leaves w w' S (logT g (lgN s n)) := by
  have HS0 := Lib.hid h
  obtain ⟨v, hz, rfl⟩ := h
  have HZ := Lib.hid hz
  have HP := Lib.hid hp
  have c0 : w.cell? ⟨g, 0, none⟩ = some v := hz.bl.cell 0
  have c4 : w.cell? ⟨g, 4, none⟩ = some (.bool s.st) := hz.bl.cell 4
  have lg := hz.bl.lt
  clear hp
  cases hst : s.st with
  | true =>
    have HE : Hid (lgB s n = false ∧ lgE s n = 6 ∧ lgN s n = s) := Lib.hid ⟨by unfold lgB; rw [hst]; rfl, by unfold lgE; rw [if_pos hst], by unfold lgN; rw [if_pos hst]⟩
    rw [hst] at c4
    rw [HE.out.1, HE.out.2.1, HE.out.2.2]
    clear hz hb hst
    go_enter Tryz.func6, Tryz.ntmps6
    trace "A"; go_wp2_with fail
    go_ret2
    exact ⟨rfl, Leaves.same HS0.out (Below.refl _ _)⟩
  | false =>
    obtain ⟨A0, cap0, hve, _, _, _⟩ := hz.ls.shape
    rw [List.length_map] at hve
    have RA := Lib.hid (radd_any A0 s.all.length cap0 s.all n w rfl (fun r hr => by
      obtain ⟨⟨p1, p2⟩, p3, p4⟩ := rngE_ok hz.ok r hr
      unfold okI
      omega) (Rd.of_lst (by rw [← hve]; exact hz.ls)))
    rw [hst] at c4
    rw [hve] at c0
    have HV := Lib.hid hve
    have HST := Lib.hid hst
    clear hz hve hst
    by_cases hE : addE s.all n = 0
    case neg =>
      have hB : addB s.all n = false := by unfold addB; rw [decide_eq_false hE]; rfl
      have HE : Hid (lgB s n = false ∧ lgE s n = addE s.all n ∧ lgN s n = s) := Lib.hid ⟨by unfold lgB; rw [hB]; simp, by unfold lgE; rw [if_neg (by rw [HST.out]; decide), if_neg hE], by unfold lgN; rw [if_neg (by rw [HST.out]; decide), if_neg (by rw [hB]; decide)]⟩
      rw [HE.out.1, HE.out.2.1, HE.out.2.2]
      rw [hB, errV_pos hE] at RA
      rw [errV_pos hE]
      clear hE hB hb
      go_enter Tryz.func6, Tryz.ntmps6
      trace "D"; go_wp2_with fail
      refine RA.out.mono ?_
      rintro e w1 ⟨A1, c1, rfl, hb1, hl1, _⟩
      have HB1 := Lib.hid hb1
      clear hb1 hl1
      trace "E"; go_wp2_with fail
      go_ret2
      exact ⟨rfl, Leaves.same HS0.out HB1.out⟩
    case pos =>
      cases hB : addB s.all n with
      | false =>
        have HE : Hid (lgB s n = false ∧ lgE s n = 0 ∧ lgN s n = s) := Lib.hid ⟨by unfold lgB; rw [hB]; simp, by unfold lgE; rw [if_neg (by rw [HST.out]; decide), if_pos hE, if_neg (by rw [hB]; simp)], by unfold lgN; rw [if_neg (by rw [HST.out]; decide), if_neg (by rw [hB]; decide)]⟩
        rw [HE.out.1, HE.out.2.1, HE.out.2.2]
        rw [hB, hE, errV_zero] at RA
        rw [errV_zero]
        clear hE hB hb
        go_enter Tryz.func6, Tryz.ntmps6
        trace "F"; go_wp2_with fail
        refine RA.out.mono ?_
        rintro e w1 ⟨A1, c1, rfl, hb1, hl1, _⟩
        have HB1 := Lib.hid hb1
        clear hb1 hl1
        trace "G"; go_wp2_with fail
        go_ret2
        exact ⟨rfl, Leaves.same HS0.out HB1.out⟩
      | true =>
        obtain ⟨-, hm, -, hok, -⟩ := addB_ok hB
        have hmm := mayB_iff.1 hm
        unfold MayBe at hmm
        obtain ⟨m0, m1⟩ := hmm
        have hrs := rec_size m0 m1
        rw [hB, hE, errV_zero] at RA
        have HOK := Lib.hid hok
        have HE : Hid (lgB s n = decide (s.left ≠ 0) ∧ lgE s n = (if s.left = 0 then 6 else 0) ∧ lgN s n = if s.left = 0 then { s.step with by_ := s.by_ ++ half n } else { s.step with by_ := s.by_ ++ rec_ n, all := addL s.all n }) := Lib.hid ⟨by unfold lgB; rw [hB, HST.out]; simp, by unfold lgE; rw [if_neg (by rw [HST.out]; decide), if_pos hE]; simp [hB], by unfold lgN; rw [if_neg (by rw [HST.out]; decide), if_pos hB]⟩
        rw [HE.out.1, HE.out.2.1, HE.out.2.2]
        have hit := ita_size m0 m1
        have HRE : Hid (ita n ++ ⟨#[10]⟩ = rec_ n) := Lib.hid rfl
        clear hE hB hm hok HE
        obtain ⟨bo, hbo⟩ : ∃ b, decide (s.left ≠ 0) = b := ⟨_, rfl⟩
        obtain ⟨Ex, hEx⟩ : ∃ E, (if s.left = 0 then (6 : Int) else 0) = E := ⟨_, rfl⟩
        obtain ⟨Sx, hSx⟩ : ∃ S, (if s.left = 0 then { s.step with by_ := s.by_ ++ half n } else { s.step with by_ := s.by_ ++ rec_ n, all := addL s.all n }) = S := ⟨_, rfl⟩
        rw [hbo, hEx, hSx]
        have HX0 : Hid (s.left = 0 → bo = false ∧ Ex = 6 ∧ { s.step with by_ := s.by_ ++ half n } = Sx) := Lib.hid (fun h => ⟨by rw [← hbo]; simpa using h, by rw [← hEx, if_pos h], by rw [← hSx, if_pos h]⟩)
        have HX1 : Hid (s.left ≠ 0 → bo = true ∧ Ex = 0 ∧ { s.step with by_ := s.by_ ++ rec_ n, all := addL s.all n } = Sx) := Lib.hid (fun h => ⟨by rw [← hbo]; simpa using h, by rw [← hEx, if_neg h], by rw [← hSx, if_neg h]⟩)
        clear hbo hEx hSx
        go_enter Tryz.func6, Tryz.ntmps6
        trace "H"; go_wp2_with fail
        refine RA.out.mono ?_
        rintro e w1 ⟨A1, c1, rfl, hb1, hl1, hk1⟩
        have HB1 := Lib.hid hb1
        have HL1 := Lib.hid hl1
        have HK1 := Lib.hid hk1
        clear hb1 hl1 hk1 RA
        trace "I"; go_wp2_with fail
        refine (itoaC n m0 m1 _ (HP.out.later HB1.out)).mono ?_
        rintro e w2 ⟨rfl, hb2⟩
        have hs2 : Since w w2 := (show Since w w1 from HB1.out).later hb2
        have HL2 := Lib.hid (HL1.out.later hb2)
        have HZ2 := Lib.hid (HZ.out.later hs2)
        have HB2 := Lib.hid hb2
        clear hb2 HL1
        trace "J"; go_wp2_with fail
        rw [HRE.out]
        refine (gstep g v s _ HZ2.out).mono ?_
        rintro e w3 ⟨rfl, hz3, ho3⟩
        have d1 : w3.cell? ⟨g, 1, none⟩ = some (.string s.by_) := hz3.bl.cell 1
        have d0 : w3.cell? ⟨g, 0, none⟩ = some v := hz3.bl.cell 0
        have lg3 := hz3.bl.lt
        have fg3 := hz3.bl.free
        have HZ3 := Lib.hid hz3
        have HO3 := Lib.hid ho3
        have HHA : Hid (half n = (rec_ n).extract 0 ((rec_ n).size / 2)) := Lib.hid rfl
        have HO13 : Hid (Out w w3 (g :: blocks v)) := Lib.hid ((Out.of_below hs2 _).then' ho3 (fun k hk => Or.inl (by rw [List.mem_singleton.1 hk]; simp)))
        have HF1 : Hid (∀ b : ByteArray, Leaves w (w3.setCell ⟨g, 1, none⟩ (.string b)) (g :: blocks v) (logT g { s.step with by_ := b })) := Lib.hid (fun b =>
          Leaves.out HO13.out (hz3.leaves (s' := { s.step with by_ := b }) (hz3.bl.put 1 (.string b)) ((Out.refl w3 [g]).put (p := ⟨g, 1, none⟩) (Or.inl (by simp)) _) rfl hz3.l1 hz3.l2))
        have HF2 : Hid (∀ b : ByteArray, Leaves w ((w3.setCell ⟨g, 1, none⟩ (.string b)).setCell ⟨g, 0, none⟩ (.slice A1 (addL s.all n).length c1)) (g :: blocks v) (logT g { s.step with by_ := b, all := addL s.all n })) := Lib.hid (fun b => by
          have hap : g ∉ blocks (.slice A1 (addL s.all n).length c1) := HL2.out.apart HZ2.out.bl (by decide)
          have hl3 := HL2.out.kept ho3 (fun k hk hm => hap ((List.mem_singleton.1 hm) ▸ hk))
          have ho4 : Out w3 ((w3.setCell ⟨g, 1, none⟩ (.string b)).setCell ⟨g, 0, none⟩ (.slice A1 (addL s.all n).length c1)) [g] := ((Out.refl w3 [g]).put (p := ⟨g, 1, none⟩) (Or.inl (by simp)) _).put (p := ⟨g, 0, none⟩) (Or.inl (by simp)) _
          refine ⟨g :: blocks (.slice A1 (addL s.all n).length c1), ⟨.slice A1 (addL s.all n).length c1, ⟨(hz3.bl.put 1 (.string b)).put 0 _, hl3.kept ho4 (fun k hk hm => hap ((List.mem_singleton.1 hm) ▸ hk)), HOK.out, hz3.l1, hz3.l2⟩, rfl⟩, HO13.out.then' ho4 (fun k hk => Or.inl (by rw [List.mem_singleton.1 hk]; simp)), fun k hk => ?_⟩
          rcases List.mem_cons.1 hk with rfl | hk
          · exact Or.inl (by simp)
          · exact Or.inr (HK1.out k (blocks_zero' hk)))
        have HEX : Hid (((rec_ n).extract 0 ((rec_ n).size / 2)).size ≤ 11) := Lib.hid (by rw [ByteArray.size_extract]; omega)
        have hxs : ((rec_ n).extract 0 ((rec_ n).size / 2)).size ≤ 11 := HEX.out
        generalize rec_ n = rc at *
        generalize s.by_ = bs at *
        clear hz3 ho3 hit HRE
        by_cases h0 : s.left = 0
        · obtain ⟨rfl, rfl, hsx⟩ := HX0.out h0
          have HSX := Lib.hid hsx
          have hd : decide (s.left = 0) = true := by simpa using h0
          rw [hd]
          clear h0 HF2 hd hsx HX0 HX1
          have hq0 : (0 : Int) ≤ (rc.size : Int) / 2 := by omega
          have hq1 : (rc.size : Int) / 2 ≤ (rc.size : Int) := by omega
          have hq2 : ((rc.size : Int) / 2).toNat = rc.size / 2 := by omega
          trace "K"; go_wp2_with fail
          go_region
          trace "L"; go_wp2_with fail
          go_ret2
          refine ⟨rfl, ?_⟩
          rw [← HSX.out, HHA.out]
          first | exact HF1.out _ | exact Leaves.drew' (HF1.out _)
        · obtain ⟨rfl, rfl, hsx⟩ := HX1.out h0
          have HSX := Lib.hid hsx
          have hd : decide (s.left = 0) = false := by simpa using h0
          rw [hd]
          clear h0 HF1 hd hsx HX0 HX1
          trace "M"; go_wp2_with fail
          go_ret2
          refine ⟨rfl, ?_⟩
          rw [← HSX.out]
          exact HF2.out _
end Go.Proofs.YtjjmoaaongnjiaaGreatDoor
