/- Contracts and plain laws that the claim leans on, part 6 of 6: each part has its own word. No condition beside theirs. -/
import Derived.Test.YtaindcicloapfaaGreatDoorBase
import Derived.Test.YtaindcicloapfaaGreatDoorOnly
import Derived.Test.YtaindcicloapfaaGreatDoorMay
import Derived.Test.YtaindcicloapfaaGreatDoorCredit
import Derived.Test.YtaindcicloapfaaGreatDoorZE
import Derived.Deep.RegionLaw
/-! Contract of an end's take: a frame. Condition: the blocks hold an end as New and the calls leave it, there were no more than 1000 packets, the frame is right. -/
namespace Go.Proofs.YtaindcicloapfaaGreatDoor
open Go.ChangeShapes Go.WideShapes Go.ChangeAt Go.RowKit
set_option linter.unusedVariables false

/-- the three blocks that a frame may change -/
structure EnW (w : World) (gx gi gl : Nat) (mv cv : Value) (s : EnS) : Prop where
  bx : BlockIs w gx 117 (enCells s mv cv gi gl).toArray
  bi : BlockIs w gi 174 (strCells s.M s.t)
  bl : BlockIs w gl 171 (credCells s.W s.L s.C s.R)
theorem block_ne {w : World} {g h : Nat} {t u : TypeId} {cs ds : Array Value} (h1 : BlockIs w g t cs) (h2 : BlockIs w h u ds) (ne : t ≠ u) : g ≠ h := by
  rintro rfl
  unfold BlockIs at h1 h2
  rw [h1] at h2
  simp only [Option.some.injEq, Obj.cells.injEq] at h2
  exact ne h2.2.1
theorem EnW.later {w w' : World} {gx gi gl : Nat} {mv cv : Value} {s : EnS} (h : EnW w gx gi gl mv cv s) (hb : Below w.heap.size w w') : EnW w' gx gi gl mv cv s := ⟨h.bx.later hb, h.bi.later hb, h.bl.later hb⟩
theorem EnW.ne {w : World} {gx gi gl : Nat} {mv cv : Value} {s : EnS} (h : EnW w gx gi gl mv cv s) : gx ≠ gi ∧ gx ≠ gl ∧ gi ≠ gl := ⟨block_ne h.bx h.bi (by decide), block_ne h.bx h.bl (by decide), block_ne h.bi h.bl (by decide)⟩
theorem take1_two {s : EnS} {f : Frm} (h : f.kind = 2) : s.take1E f = s.ackE (pairs f.nums) ∧ s.take1 f = s.ack (pairs f.nums) := by
  unfold EnS.take1E EnS.take1 EnS.ackE EnS.ack
  rw [if_pos h, if_pos h]
  exact ⟨rfl, rfl⟩
theorem ack_rest (s : EnS) (R : List Rng) : (s.ack R).M = s.M ∧ (s.ack R).t = s.t ∧ (s.ack R).W = s.W ∧ (s.ack R).L = s.L ∧ (s.ack R).C = s.C ∧ (s.ack R).R = s.R := by
  unfold EnS.ack; split <;> simp
set_option maxHeartbeats 3200000 in
set_option maxRecDepth 100000 in
theorem etake1 (gx gi gl : Nat) (mv cv : Value) (vs : List Value) (s : EnS) (p : FrmV) (w : World) (hw : EnW w gx gi gl mv cv s) (ok : EnOk s) (hm : MadeIs w mv vs s.made) (h1000 : s.made.length ≤ 1000) (hp : FrmIn w p) (hE : frmE p.f = 0) :
    Calls Tryz.prog 73 #[.pointer (some ⟨gx, 0, none⟩), p.agg] w fun e w' => e = .returned (errV (s.take1E p.f)) ∧ EnW w' gx gi gl mv cv (s.take1 p.f) ∧ Out w w' [gx, gi, gl] := by
  have HW := Lib.hid hw
  have HOK := Lib.hid ok
  have HM := Lib.hid hm
  have HP := Lib.hid hp
  have HE := Lib.hid hE
  obtain ⟨⟨kind, nums, data⟩, A, cap⟩ := p
  have hB0 : Hid (∀ z : World, Since w (w.alloc (.cells #[.int .i64 kind, .slice A nums.length cap, .string data] 103))) := Lib.hid (fun _ => (by refine Since.out ?_; repeat (first | with_reducible assumption | with_reducible exact Since.refl _ | with_reducible refine Since.later ?_ (by with_reducible assumption) | with_reducible refine Since.only ?_ (by with_reducible assumption) (by first | assumption | omega | (simp; done) | (simp; omega)) | with_reducible refine Since.alloc ?_ _ | with_reducible refine Since.drewN ?_ _ | with_reducible refine Since.drew ?_ | with_reducible refine Since.set ?_ (by first | assumption | omega | (simp; done) | (simp; omega)) _)))
  by_cases h2 : kind = 2
  · subst h2
    have HT := Lib.hid (take1_two (s := s) (f := ⟨2, nums, data⟩) rfl)
    have h4 := frm_two hE rfl
    dsimp only at h4 HT
    rw [HT.out.1, HT.out.2]
    have HF := Lib.hid (fun (X : World) (hX : Since w X) => franges A cap nums (pairs nums).length X (hp.nums.keep hX) h4.2.2.1 h4.2.1 h4.2.2.2)
    have HA := Lib.hid (fun (X : World) (hX : Since w X) A1 c1 hl => eackd gx gi gl mv cv vs s A1 (pairs nums).length c1 (pairs nums) X (hw.bx.later hX) ok (hm.later hX) h1000 hl rfl h4.2.1 h4.1)
    clear hw ok hm hp hE h4
    go_enter Tryz.func73, Tryz.ntmps73
    trace "A"; go_wp2_with (first
      | (go_at_call 122; refine (HF.out _ (by refine Since.out ?_; repeat (first | with_reducible assumption | with_reducible exact Since.refl _ | with_reducible refine Since.later ?_ (by with_reducible assumption) | with_reducible refine Since.only ?_ (by with_reducible assumption) (by first | assumption | omega | (simp; done) | (simp; omega)) | with_reducible refine Since.alloc ?_ _ | with_reducible refine Since.drewN ?_ _ | with_reducible refine Since.drew ?_ | with_reducible refine Since.set ?_ (by first | assumption | omega | (simp; done) | (simp; omega)) _))).mono ?_; rintro e w1 ⟨A1, c1, rfl, hl1, hb1, hk1⟩; have hs1 : Since w w1 := (show Since w w1 from (by refine Since.out ?_; repeat (first | with_reducible assumption | with_reducible exact Since.refl _ | with_reducible refine Since.later ?_ (by with_reducible assumption) | with_reducible refine Since.only ?_ (by with_reducible assumption) (by first | assumption | omega | (simp; done) | (simp; omega)) | with_reducible refine Since.alloc ?_ _ | with_reducible refine Since.drewN ?_ _ | with_reducible refine Since.drew ?_ | with_reducible refine Since.set ?_ (by first | assumption | omega | (simp; done) | (simp; omega)) _))))
      | (go_at_call 121; refine (HA.out _ hs1 A1 c1 hl1).mono ?_; rintro e w2 ⟨rfl, hx2, ho2⟩))
    go_ret
    obtain ⟨e1, e2, e3, e4, e5, e6⟩ := ack_rest s (pairs nums)
    obtain ⟨n1, n2, n3⟩ := HW.out.ne
    refine ⟨rfl, ⟨hx2, ?_, ?_⟩, ((Out.of_below hs1 [gx]).trans ho2).mono (fun k hk => Or.inl (by rw [List.mem_singleton.1 hk]; simp))⟩
    · rw [e1, e2]; exact ho2.block' (HW.out.bi.later hs1) (by simp; omega)
    · rw [e3, e4, e5, e6]; exact ho2.block' (HW.out.bl.later hs1) (by simp; omega)
  have k2 : (kind == 2) = false := by simpa using h2
  by_cases h4 : kind = 4
  · subst h4
    obtain ⟨hn, hmb⟩ := frm_four hE rfl
    dsimp only at hn hmb
    obtain ⟨z, hz⟩ : ∃ z, ith nums 0 = z := ⟨_, rfl⟩
    rw [hz] at hn hmb
    have hnum := hp.nums
    subst hn
    obtain ⟨-, A1, c1, hv, -, -, hcc⟩ := hnum
    simp only [FrmV.v, Value.slice.injEq] at hv
    obtain ⟨b, off, hA, hlt, hc⟩ := hcc (by simp)
    have hA' : A = some ⟨b, off, none⟩ := hv.1.trans hA
    subst hA'
    have hc0 : w.cell? ⟨b, off, none⟩ = some (.int .i64 z) := hc 0 (by simp)
    have HT : Hid (s.take1E ⟨4, [z], data⟩ = 0 ∧ s.take1 ⟨4, [z], data⟩ = { s with may := max s.may z }) := Lib.hid ⟨rfl, rfl⟩
    rw [HT.out.1, HT.out.2, errV_zero]
    have c61 : w.cell? ⟨gx, 61, none⟩ = some (.int .i64 s.may) := (hw.bx.cell 61).trans (enCells_tail _ _ _ _ ok.tl 0)
    have fx := hw.bx.free
    have lx := hw.bx.lt
    have HFIN : Hid (∀ (X : World) (y : Int), Since w X → y = max s.may z → EnW (X.setCell ⟨gx, 61, none⟩ (.int .i64 y)) gx gi gl mv cv { s with may := max s.may z } ∧ Out w (X.setCell ⟨gx, 61, none⟩ (.int .i64 y)) [gx, gi, gl]) := Lib.hid (fun X y hX hy => by
      subst hy
      obtain ⟨n1, n2, n3⟩ := hw.ne
      have h1 := (hw.bx.later hX).put 61 (.int .i64 (max s.may z))
      rw [enCells_61 _ _ _ _ ok.tl] at h1
      exact ⟨⟨h1, (hw.bi.later hX).far (fun h => n1 h.symm) _, (hw.bl.later hX).far (fun h => n2 h.symm) _⟩, (Out.of_below hX _).put (p := ⟨gx, 61, none⟩) (Or.inl (by simp)) _⟩)
    clear hw ok hm hp hE hc hcc hv hA
    go_enter Tryz.func73, Tryz.ntmps73
    trace "B"; go_wp2_with fail
    trace "C"; go_region
    all_goals
      go_wp2_with fail
      go_ret
      have h9 := HFIN.out w _ (Since.refl w) rfl
      exact ⟨rfl, h9.1.later (by refine Since.out ?_; repeat (first | with_reducible assumption | with_reducible exact Since.refl _ | with_reducible refine Since.later ?_ (by with_reducible assumption) | with_reducible refine Since.only ?_ (by with_reducible assumption) (by first | assumption | omega | (simp; done) | (simp; omega)) | with_reducible refine Since.alloc ?_ _ | with_reducible refine Since.drewN ?_ _ | with_reducible refine Since.drew ?_ | with_reducible refine Since.set ?_ (by first | assumption | omega | (simp; done) | (simp; omega)) _)), h9.2.later (by refine Since.out ?_; repeat (first | with_reducible assumption | with_reducible exact Since.refl _ | with_reducible refine Since.later ?_ (by with_reducible assumption) | with_reducible refine Since.only ?_ (by with_reducible assumption) (by first | assumption | omega | (simp; done) | (simp; omega)) | with_reducible refine Since.alloc ?_ _ | with_reducible refine Since.drewN ?_ _ | with_reducible refine Since.drew ?_ | with_reducible refine Since.set ?_ (by first | assumption | omega | (simp; done) | (simp; omega)) _))⟩
  have k4 : (kind == 4) = false := by simpa using h4
  by_cases h3 : kind = 3
  · subst h3
    obtain ⟨hn, hmb, hd20⟩ := frm_three hE rfl
    dsimp only at hn hmb hd20
    obtain ⟨z, hz⟩ : ∃ z, ith nums 0 = z := ⟨_, rfl⟩
    rw [hz] at hn hmb
    have hnum := hp.nums
    subst hn
    obtain ⟨-, A1, c1, hv, -, -, hcc⟩ := hnum
    simp only [FrmV.v, Value.slice.injEq] at hv
    obtain ⟨b, off, hA, hlt, hc⟩ := hcc (by simp)
    have hA' : A = some ⟨b, off, none⟩ := hv.1.trans hA
    subst hA'
    have hc0 : w.cell? ⟨b, off, none⟩ = some (.int .i64 z) := hc 0 (by simp)
    have hmb' := hmb
    unfold MayBe at hmb'
    have hwr : IntKind.i64.wrap (z + (data.size : Int)) = z + (data.size : Int) := IntWalk.i64_in _ (by omega)
    have HX : Hid (∀ X, Since w X → X.cell? ⟨gx, 65, none⟩ = some (.pointer (some ⟨gi, 0, none⟩)) ∧ X.cell? ⟨gx, 66, none⟩ = some (.pointer (some ⟨gl, 0, none⟩)) ∧ gx < X.heap.size) := Lib.hid (fun X hX => ⟨((hw.bx.later hX).cell 65).trans (enCells_tail _ _ _ _ ok.tl 4), ((hw.bx.later hX).cell 66).trans (enCells_tail _ _ _ _ ok.tl 5), (hw.bx.later hX).lt⟩)
    obtain ⟨c65, c66, lx⟩ := HX.out w (Since.refl w)
    have HCT := Lib.hid (fun (X : World) (hX : Since w X) => ctake_any gl s.W s.L s.C s.R (z + data.size) X (hw.bl.later hX))
    have HEE : Hid (s.take1E ⟨3, [z], data⟩ = if takeE s.L (z + data.size) = 0 then putE s.M z data.data.toList else takeE s.L (z + data.size)) := Lib.hid rfl
    have HTT : Hid (s.take1 ⟨3, [z], data⟩ = if takeE s.L (z + data.size) = 0 then { s with C := maxN s.C (z + data.size), M := putM s.M z data.data.toList } else s) := Lib.hid rfl
    clear hc hcc hv hA hp hm
    obtain ⟨RE, hRE⟩ : ∃ E, s.take1E ⟨3, [z], data⟩ = E := ⟨_, rfl⟩
    obtain ⟨RS, hRS⟩ : ∃ E, s.take1 ⟨3, [z], data⟩ = E := ⟨_, rfl⟩
    rw [hRE, hRS]
    have HE0 : Hid (takeE s.L (z + data.size) = 0 → RE = putE s.M z data.data.toList ∧ RS = { s with C := maxN s.C (z + data.size), M := putM s.M z data.data.toList }) := Lib.hid (fun h0 => ⟨by rw [← hRE, HEE.out, if_pos h0], by rw [← hRS, HTT.out, if_pos h0]⟩)
    have HE1 : Hid (¬ takeE s.L (z + data.size) = 0 → RE = takeE s.L (z + data.size) ∧ RS = s) := Lib.hid (fun h0 => ⟨by rw [← hRE, HEE.out, if_neg h0], by rw [← hRS, HTT.out, if_neg h0]⟩)
    clear hRE hRS HEE HTT
    have hne := Lib.hid hw.ne
    have HPT := Lib.hid (fun (X : World) (h : Sz X gi s.M s.t) => sput gi s.M s.t z data X h (by omega))
    have HTL := Lib.hid ok.tl
    have HSZ : Hid (∀ X, BlockIs X gi 174 (strCells s.M s.t) → Sz X gi s.M s.t) := Lib.hid (fun X h => ⟨h, ok.ml, ok.tt⟩)
    clear hw ok hE
    go_enter Tryz.func73, Tryz.ntmps73
    trace "E"; go_wp2_with fail
    trace "F"; go_region
    all_goals
      trace "G"; go_upto_region 9 with fail
      go_cut [6] (fun s6 wx => s6 = errV (takeE s.L (z + data.size)) ∧ EnW wx gx gi gl mv cv { s with C := tC s.L s.C (z + data.size) } ∧ BlockIs wx (w.heap.size + 1) 129 #[.int .i64 z, .string data] ∧ Out w wx [gx, gi, gl])
      case first =>
        trace "H"; go_region_law (go_simp; go_at_call 123; refine (HCT.out _ (show Since w _ from (by refine Since.out ?_; repeat (first | with_reducible assumption | with_reducible exact Since.refl _ | with_reducible refine Since.later ?_ (by with_reducible assumption) | with_reducible refine Since.only ?_ (by with_reducible assumption) (by first | assumption | omega | (simp; done) | (simp; omega)) | with_reducible refine Since.alloc ?_ _ | with_reducible refine Since.drewN ?_ _ | with_reducible refine Since.drew ?_ | with_reducible refine Since.set ?_ (by first | assumption | omega | (simp; done) | (simp; omega)) _)))).mono ?_; rintro e w2 ⟨rfl, hb2, ho2⟩; have HB2 := Lib.hid hb2; have HO2 := Lib.hid ho2; clear hb2 ho2)
        all_goals
          go_wp2_with fail
          go_meet
          case rel =>
            obtain ⟨n1, n2, n3⟩ := hne.out
            have hsx : Since w ((w.alloc (.cells #[.int .i64 3, .slice (some ⟨b, off, none⟩) 1 cap, .string data] 103)).alloc (.cells #[.int .i64 z, .string data] 129)).drew.drew := (by refine Since.out ?_; repeat (first | with_reducible assumption | with_reducible exact Since.refl _ | with_reducible refine Since.later ?_ (by with_reducible assumption) | with_reducible refine Since.only ?_ (by with_reducible assumption) (by first | assumption | omega | (simp; done) | (simp; omega)) | with_reducible refine Since.alloc ?_ _ | with_reducible refine Since.drewN ?_ _ | with_reducible refine Since.drew ?_ | with_reducible refine Since.set ?_ (by first | assumption | omega | (simp; done) | (simp; omega)) _))
            have ho := Out.of_only HO2.out
            refine ⟨rfl, ⟨ho.block' (HW.out.bx.later hsx) (by simp; omega), ho.block' (HW.out.bi.later hsx) (by simp; omega), HB2.out⟩, ho.block' ((BlockIs.fresh_at (by simp)).drew.drew) ?_, ((Out.of_below hsx [gl]).trans ho).mono (fun k hk => Or.inl (by rw [List.mem_singleton.1 hk]; simp))⟩
            have := HW.out.bl.lt
            simp; omega
      case rest =>
        obtain ⟨rfl, hew, hpc, how⟩ := hcut
        have HEW := Lib.hid hew
        have HOW := Lib.hid how
        have d65 : wc.cell? ⟨gx, 65, none⟩ = some (.pointer (some ⟨gi, 0, none⟩)) := (hew.bx.cell 65).trans (enCells_tail (s := { s with C := tC s.L s.C (z + data.size) }) _ _ _ _ HTL.out 4)
        have lx9 := hew.bx.lt
        have p0 : wc.cell? ⟨w.heap.size + 1, 0, none⟩ = some (.int .i64 z) := hpc.cell 0
        have p1 : wc.cell? ⟨w.heap.size + 1, 1, none⟩ = some (.string data) := hpc.cell 1
        have lp := hpc.lt
        clear hew how hpc
        by_cases hT : takeE s.L (z + data.size) = 0
        · have HH := Lib.hid (HE0.out hT)
          rw [hT, errV_zero]
          have htC : tC s.L s.C (z + data.size) = maxN s.C (z + data.size) := by unfold tC; rw [if_pos hT]
          rw [htC] at HEW
          clear hT htC
          trace "I"; go_wp2_with fail
          trace "J"; go_region_law (go_simp; go_at_call 124; refine (HPT.out _ (HSZ.out _ (HEW.out.bi.later (show Since wc _ from (by refine Since.out ?_; repeat (first | with_reducible assumption | with_reducible exact Since.refl _ | with_reducible refine Since.later ?_ (by with_reducible assumption) | with_reducible refine Since.only ?_ (by with_reducible assumption) (by first | assumption | omega | (simp; done) | (simp; omega)) | with_reducible refine Since.alloc ?_ _ | with_reducible refine Since.drewN ?_ _ | with_reducible refine Since.drew ?_ | with_reducible refine Since.set ?_ (by first | assumption | omega | (simp; done) | (simp; omega)) _)))))).mono ?_; rintro e w3 ⟨rfl, hz3, ho3⟩; have HZ3 := Lib.hid hz3; have HO3 := Lib.hid ho3; clear hz3 ho3)
          all_goals
            go_wp2_with fail
            go_ret
            obtain ⟨n1, n2, n3⟩ := hne.out
            rw [HH.out.1, HH.out.2]
            refine ⟨rfl, ⟨HO3.out.block' HEW.out.bx.drew (by simp; omega), HZ3.out.bl, HO3.out.block' HEW.out.bl.drew (by simp; omega)⟩, HOW.out.drew.trans (HO3.out.mono (fun k hk => Or.inl (by rw [List.mem_singleton.1 hk]; simp)))⟩
        · have HH := Lib.hid (HE1.out hT)
          have htC : tC s.L s.C (z + data.size) = s.C := by unfold tC; rw [if_neg hT]
          rw [htC] at HEW
          rw [errV_pos hT]
          have HEP := Lib.hid (errV_pos hT)
          obtain ⟨ee, hee⟩ : ∃ e, takeE s.L (z + data.size) = e := ⟨_, rfl⟩
          rw [hee] at HH HEP
          rw [hee]
          clear hT htC hee
          trace "K"; go_wp2_with fail
          go_ret
          rw [HH.out.1, HH.out.2, HEP.out]
          exact ⟨rfl, HEW.out, HOW.out⟩
  · have k3 : (kind == 3) = false := by simpa using h3
    have HT : Hid (s.take1E ⟨kind, nums, data⟩ = 3 ∧ s.take1 ⟨kind, nums, data⟩ = s) := Lib.hid ⟨by unfold EnS.take1E; rw [if_neg h2, if_neg h4, if_neg h3], by unfold EnS.take1; rw [if_neg h2, if_neg h4, if_neg h3]⟩
    rw [HT.out.1, HT.out.2]
    clear hw ok hm hp hE
    go_enter Tryz.func73, Tryz.ntmps73
    trace "D"; go_wp2_with fail
    go_ret
    exact ⟨rfl, HW.out.later (by refine Since.out ?_; repeat (first | with_reducible assumption | with_reducible exact Since.refl _ | with_reducible refine Since.later ?_ (by with_reducible assumption) | with_reducible refine Since.only ?_ (by with_reducible assumption) (by first | assumption | omega | (simp; done) | (simp; omega)) | with_reducible refine Since.alloc ?_ _ | with_reducible refine Since.drewN ?_ _ | with_reducible refine Since.drew ?_ | with_reducible refine Since.set ?_ (by first | assumption | omega | (simp; done) | (simp; omega)) _)), Out.of_below (by refine Since.out ?_; repeat (first | with_reducible assumption | with_reducible exact Since.refl _ | with_reducible refine Since.later ?_ (by with_reducible assumption) | with_reducible refine Since.only ?_ (by with_reducible assumption) (by first | assumption | omega | (simp; done) | (simp; omega)) | with_reducible refine Since.alloc ?_ _ | with_reducible refine Since.drewN ?_ _ | with_reducible refine Since.drew ?_ | with_reducible refine Since.set ?_ (by first | assumption | omega | (simp; done) | (simp; omega)) _)) _⟩
end Go.Proofs.YtaindcicloapfaaGreatDoor

/-! Contract of an end's pieces: those that are not there. Condition: the blocks hold an end as New and the calls leave it. -/
namespace Go.Proofs.YtaindcicloapfaaGreatDoor
open Go.ChangeShapes Go.WideShapes Go.ChangeAt Go.RowKit
set_option linter.unusedVariables false

/-- the walk stands ahead of block n -/
theorem stop_blk (n : Nat) {P : Program} {c d : Code} {Q : Exit → Act → World → Prop} {a : Act} {w : World} (h : Code.wp P ((Code.block n c).seq d) Q a w) : Code.wp P ((Code.block n c).seq d) Q a w := h
/-- what a round of pieces keeps -/
structure PsIn (w wr : World) (s : EnS) (a : Nat) (A : Option Addr) (k : Nat) (out : List Pc) : Prop where
  le : a ≤ s.last ∨ a = 0
  few : out.length ≤ 3
  ls : Lst wr 129 2 (.slice A out.length k) (out.map pcRow)
  nw : ∀ q, q ∈ blocks (.slice A 0 0) → w.heap.size ≤ q
  since : Since w wr
  rest : s.pieces = out ++ pcsR s.told s.last s.data a (3 - out.length)
theorem PsIn.skip {w wr : World} {s : EnS} {a k : Nat} {A : Option Addr} {out : List Pc} (h : PsIn w wr s a A k out) (hl : a < s.last) (h0 : strN s.told s.last 20 a = 0) : PsIn w wr s (a + 1) A k out :=
  ⟨Or.inl (by omega), h.few, h.ls, h.nw, h.since, by rw [← pcsR_skip h0]; exact h.rest⟩
theorem PsIn.done {w wr : World} {s : EnS} {a k : Nat} {A : Option Addr} {out : List Pc} (h : PsIn w wr s a A k out) (hl : ¬ (a < s.last ∧ out.length < 3)) : s.pieces = out := by
  have := h.rest
  have h3 := h.few
  rw [pcsR_none (by omega), List.append_nil] at this
  exact this
theorem PsIn.take {w wr w' : World} {s : EnS} {a k n q c : Nat} {A : Option Addr} {out : List Pc} (h : PsIn w wr s a A k out) (hl : a < s.last) (h3 : out.length < 3) (hn : strN s.told s.last 20 a = n) (h0 : n ≠ 0)
    (hls : Lst w' 129 2 (.slice (some ⟨q, 0, none⟩) (out.length + 1) c) (out.map pcRow ++ [pcRow ⟨a, s.data.extract a (a + n)⟩])) (hq : q ∈ blocks (.slice A 0 0) ∨ wr.heap.size ≤ q) (hs : Since w w') : PsIn w w' s (a + n) (some ⟨q, 0, none⟩) c (out ++ [⟨a, s.data.extract a (a + n)⟩]) := by
  have hle := strN_le s.told s.last 20 a
  refine ⟨Or.inl (by omega), by simp; omega, by rw [List.length_append, List.map_append]; exact hls, fun x hx => ?_, hs, ?_⟩
  · have : q = x := by simpa [Value.ownBlock] using hx
    subst this
    rcases hq with hq | hq
    · exact h.nw _ hq
    · exact Nat.le_trans h.since.size hq
  · rw [h.rest, pcsR_take hl (by omega) (by omega), hn, List.append_assoc, List.length_append]
    rfl
set_option maxHeartbeats 3200000 in
set_option maxRecDepth 100000 in
theorem epieces (g : Nat) (s : EnS) (p : EnP) (w : World) (S : List Nat) (h : EnIn w S g s p) :
    Calls Tryz.prog 67 #[.pointer (some ⟨g, 0, none⟩)] w fun e w' => ∃ A' cap', e = .returned (.slice A' s.pieces.length cap') ∧ Lst w' 129 2 (.slice A' s.pieces.length cap') (s.pieces.map pcRow) ∧ Below w.heap.size w w' ∧ ∀ k, k ∈ blocks (.slice A' 0 0) → w.heap.size ≤ k := by
  have H := Lib.hid h
  have c0 := h.c0
  have c61 := h.c61
  have lg := h.bg.lt
  have hla := h.ok.last
  have hdz := h.ok.dz
  have hmy := h.ok.my
  have hLI : Hid (min (s.data.size : Int) s.may = (s.last : Int)) := Lib.hid (by unfold EnS.last; omega)
  have HCT : Hid (∀ X, Since w X → ∀ i, i < 60 → X.cell? ⟨g, 1 + i, none⟩ = some (.bool (tat s.told i))) := Lib.hid (fun X hX i hi => hX.cell h.bg.lt (h.ct hi))
  have HC0 : Hid (∀ X, Since w X → X.cell? ⟨g, 0, none⟩ = some (.string s.data) ∧ g < X.heap.size) := Lib.hid (fun X hX => ⟨hX.cell h.bg.lt h.c0, Nat.lt_of_lt_of_le h.bg.lt hX.size⟩)
  have hP0 : PsIn w w.drew s 0 none 0 [] := ⟨Or.inr rfl, by simp, Lst.nil _ _ _, by simp [Value.ownBlock], (by refine Since.out ?_; repeat (first | with_reducible assumption | with_reducible exact Since.refl _ | with_reducible refine Since.later ?_ (by with_reducible assumption) | with_reducible refine Since.only ?_ (by with_reducible assumption) (by first | assumption | omega | (simp; done) | (simp; omega)) | with_reducible refine Since.alloc ?_ _ | with_reducible refine Since.drewN ?_ _ | with_reducible refine Since.drew ?_ | with_reducible refine Since.set ?_ (by first | assumption | omega | (simp; done) | (simp; omega)) _)), by rfl⟩
  have HP0 := Lib.hid hP0
  clear h hP0
  go_enter Tryz.func67, Tryz.ntmps67
  have hli := hLI.out
  trace "A"; go_wp2_with fail
  trace "B"; go_region
  trace "C"; go_wp2_with fail
  trace "D"; go_loopw [3, 5] (fun s3 s5 wr => ∃ (a k : Nat) (A : Option Addr) (out : List Pc), s5 = .int .i64 a ∧ s3 = .slice A out.length k ∧ PsIn w wr s a A k out) (fun s3 s5 _ => s.last - (intOf s5).toNat)
  case atStart => exact ⟨0, 0, none, [], rfl, rfl, HP0.out⟩
  case round =>
    obtain ⟨a, k, A, out, rfl, rfl, hp⟩ := hrel
    have HP := Lib.hid hp
    have hfew := hp.few
    have hale := hp.le
    obtain ⟨d0, lx⟩ := HC0.out wr hp.since
    have HCTR := Lib.hid (HCT.out wr hp.since)
    clear hp
    obtain ⟨m, hm⟩ : ∃ m, out.length = m := ⟨_, rfl⟩
    rw [hm] at hfew
    have HM := Lib.hid hm
    rw [hm]
    clear hm
    by_cases hl : a < s.last
    case neg =>
      have hl' : decide ((a : Int) < (s.last : Int)) = false := by simp; omega
      have HD := Lib.hid (HP.out.done (by omega))
      trace "E"; go_wp2_with fail
      go_ret
      refine ⟨A, k, by rw [HD.out, HM.out]; rfl, ?_, HP.out.since, HP.out.nw⟩
      rw [HD.out]; exact HP.out.ls
    by_cases h3 : m < 3
    case neg =>
      have hl' : (a : Int) < (s.last : Int) := by omega
      have h3' : decide ((m : Int) < 3) = false := by simp; omega
      have HD := Lib.hid (HP.out.done (by rw [HM.out]; omega))
      trace "F"; go_wp2_with fail
      go_ret
      refine ⟨A, k, by rw [HD.out, HM.out]; rfl, ?_, HP.out.since, HP.out.nw⟩
      rw [HD.out]; exact HP.out.ls
    have hl' : (a : Int) < (s.last : Int) := by omega
    have h3' : (m : Int) < 3 := by omega
    trace "G"; repeat ((fail_if_success (with_reducible refine stop_blk 2 ?_)); first | fail | go_values | go_skip | go_guarded | go_step | go_upon | go_back | go_simp)
    go_step
    go_cut [6] (fun s6 wx => s6 = .int .i64 ((a + strN s.told s.last 20 a : Nat) : Int) ∧ wx = wr)
    case first =>
      obtain ⟨wo, hwo⟩ : ∃ wo : World, wo = wr := ⟨_, rfl⟩
      subst hwo
      go_wp2_with fail
      trace "H"; go_loopw [6] (fun s6 wi => ∃ n : Nat, s6 = .int .i64 ((a + n : Nat) : Int) ∧ n ≤ 20 ∧ (∀ j, j < n → a + j < s.last ∧ tat s.told (a + j) = false) ∧ wi = wo) (fun s6 _ => s.last - (intOf s6).toNat)
      case atStart => exact ⟨0, rfl, by omega, fun j hj => by omega, rfl⟩
      case round =>
        obtain ⟨n, rfl, hn20, hall, rfl⟩ := hrel
        have HA := Lib.hid hall
        obtain ⟨z, hz⟩ : ∃ z, a + n = z := ⟨_, rfl⟩
        have HZ := Lib.hid hz
        have hzz : (z : Int) - (a : Int) = (n : Int) := by omega
        have hwz : IntKind.i64.wrap ((z : Int) - (a : Int)) = (n : Int) := by rw [hzz]; exact IntWalk.i64_in _ (by omega)
        rw [hz]
        clear hall hz hzz
        by_cases hc1 : z < s.last
        case neg =>
          have hc1' : decide ((z : Int) < (s.last : Int)) = false := by simp; omega
          have HE : Hid (strN s.told s.last 20 a = n) := Lib.hid (strN_eq hn20 HA.out (Or.inr (by rw [HZ.out]; omega)))
          go_wp2_with fail
          go_meet
          case rel => exact ⟨by rw [HE.out, HZ.out], rfl⟩
        have hc1' : (z : Int) < (s.last : Int) := by omega
        by_cases hc2 : n < 20
        case neg =>
          have hc2' : decide ((n : Int) < 20) = false := by simp; omega
          have HE : Hid (strN s.told s.last 20 a = n) := Lib.hid (strN_eq hn20 HA.out (Or.inl (by omega)))
          go_wp2_with fail
          go_meet
          case rel => exact ⟨by rw [HE.out, HZ.out], rfl⟩
        have hc2' : (n : Int) < 20 := by omega
        have cz := HCTR.out z (by omega)
        have hz60 : (z : Int) < 60 := by omega
        cases hb : tat s.told z with
        | true =>
          rw [hb] at cz
          have HE : Hid (strN s.told s.last 20 a = n) := Lib.hid (strN_eq hn20 HA.out (Or.inr (by rw [HZ.out, hb]; simp)))
          clear hb
          trace "I"; go_wp2_with fail
          go_meet
          case rel => exact ⟨by rw [HE.out, HZ.out], rfl⟩
        | false =>
          rw [hb] at cz
          have HBB := Lib.hid hb
          clear hb
          trace "J"; go_wp2_with fail
          go_roundw
          case rel => exact ⟨n + 1, by have := HZ.out; go_num, by omega, fun j hj => by
            rcases Nat.lt_succ_iff_lt_or_eq.1 hj with h1 | h1
            · exact HA.out j h1
            · subst h1; rw [HZ.out]; exact ⟨by omega, HBB.out⟩, trivial⟩
          case measure => simp [intOf]; omega
    case rest =>
      obtain ⟨rfl, rfl⟩ := hcut
      obtain ⟨N, hN⟩ : ∃ N, strN s.told s.last 20 a = N := ⟨_, rfl⟩
      have hNle := strN_le s.told s.last 20 a
      rw [hN] at hNle
      rw [hN]
      have HNN := Lib.hid hN
      clear hN
      by_cases hN0 : N = 0
      · subst hN0
        have heq : (((a + 0 : Nat) : Int) == (a : Int)) = true := by simp
        trace "K"; go_wp2_with fail
        go_roundw
        case rel => exact ⟨a + 1, k, A, out, by go_num, by rw [HM.out], HP.out.skip hl HNN.out⟩
        case measure => simp [intOf]; omega
      · obtain ⟨z, hz⟩ : ∃ z, a + N = z := ⟨_, rfl⟩
        have HZ := Lib.hid hz
        have hne : ((z : Int) == (a : Int)) = false := by simp; omega
        have hza : (a : Int) ≤ (z : Int) := by omega
        have hzd : (z : Int) ≤ (s.data.size : Int) := by omega
        have hz60 : z ≤ 60 := by omega
        rw [hz]
        obtain ⟨es, hes⟩ : ∃ es, out.map pcRow = es := ⟨_, rfl⟩
        have HES : Hid (es.length = m) := Lib.hid (by rw [← hes, List.length_map]; exact HM.out)
        have HEQ := Lib.hid hes
        have HLS : Hid (Lst wc 129 2 (.slice A m k) es) := Lib.hid (by have := HP.out.ls; rw [hes, HM.out] at this; exact this)
        have HNW : Hid (∀ q, q ∈ blocks (.slice A m k) → w.heap.size ≤ q) := Lib.hid (fun q hq => HP.out.nw q (blocks_any A _ _ _ _ ▸ hq))
        have HS := Lib.hid HP.out.since
        clear hz hes hNle
        trace "L"; go_wp2_with (at_builtin; refine wpList_push rfl _ _ 126 rfl 129 2 24 Tryz.elPc (.slice A m k) es rfl (HLS.out.alloc _) wc.heap.size 1 [.int .i64 a, .string (s.data.extract a z)] rfl rfl (pcRow_one ⟨a, s.data.extract a z⟩).2 (BlockIs.fresh _ _ _) (by rw [HES.out]; omega) ?_; intro q cq w5 hl5 ho5 hq5 hlt5; rw [HES.out] at hl5; rw [HES.out])
        have HL5 := Lib.hid hl5
        have HS5 : Hid (Since w w5) := Lib.hid ((Since.alloc HS.out _).out' ho5 (fun q hq => HNW.out q hq))
        have HQ5 : Hid (q ∈ blocks (.slice A 0 0) ∨ wc.heap.size ≤ q) := Lib.hid (by
          rcases hq5 with h1 | h1
          · exact Or.inl (blocks_any A _ _ _ _ ▸ h1)
          · right; rw [h1]; simp)
        clear hl5 ho5 hq5
        trace "M"; go_wp2_with fail
        go_roundw
        case rel =>
          have h1 := HP.out.take (w' := w5) (q := q) (c := cq) hl (by rw [HM.out]; omega) HNN.out hN0 (by rw [HEQ.out, HM.out, HZ.out]; exact HL5.out) HQ5.out HS5.out
          rw [HZ.out] at h1
          exact ⟨z, cq, some ⟨q, 0, none⟩, _, rfl, by simp [HM.out], h1⟩
        case measure => have := HZ.out; simp [intOf]; omega
end Go.Proofs.YtaindcicloapfaaGreatDoor

/-! Contract of an end's Make. Condition: the blocks hold an end as New and the calls leave it, there were no more than 1000 packets, the table of kinds lies there. -/
namespace Go.Proofs.YtaindcicloapfaaGreatDoor
open Go.ChangeShapes Go.WideShapes Go.ChangeAt Go.RowKit
set_option linter.unusedVariables false

/-- frames of the call's own -/
structure FlSt (w wr : World) (A : Option Addr) (k : Nat) (Ms : List FrmV) : Prop where
  ls : Lst wr 103 3 (.slice A Ms.length k) (Ms.map frmRow)
  nw : ∀ q, q ∈ blocks (.slice A 0 0) → w.heap.size ≤ q
  each : ∀ g ∈ Ms, FrmIn wr g ∧ farA g (blocks (.slice A 0 0))
  since : Since w wr
theorem FlSt.start {w wr : World} (h : Since w wr) : FlSt w wr none 0 [] := ⟨Lst.nil _ _ _, by simp [Value.ownBlock], by simp, h⟩
theorem FlSt.later {w wr w' : World} {A : Option Addr} {k : Nat} {Ms : List FrmV} (h : FlSt w wr A k Ms) (hb : Below wr.heap.size wr w') : FlSt w w' A k Ms :=
  ⟨h.ls.later hb, h.nw, fun g hg => ⟨(h.each g hg).1.later hb, (h.each g hg).2⟩, h.since.later hb⟩
theorem FlSt.step {w wr X w9 : World} {A : Option Addr} {k q9 c9 : Nat} {Ms : List FrmV} {g : FrmV} (h : FlSt w wr A k Ms) (hX : Below wr.heap.size wr X) (hg : FrmIn X g) (hn : newA g.A wr.heap.size)
    (hl : Lst w9 103 3 (.slice (some ⟨q9, 0, none⟩) (Ms.length + 1) c9) (Ms.map frmRow ++ [frmRow g])) (ho : Out X w9 (blocks (.slice A Ms.length k))) (hq : q9 ∈ blocks (.slice A Ms.length k) ∨ q9 = X.heap.size) :
    FlSt w w9 (some ⟨q9, 0, none⟩) c9 (Ms ++ [g]) := by
  have hbl : blocks (.slice A Ms.length k) = blocks (.slice A 0 0) := blocks_any A _ _ _ _
  rw [hbl] at ho hq
  have hold : ∀ q, q ∈ blocks (.slice A 0 0) → q < wr.heap.size := fun q hq => h.ls.lt q (by rw [hbl]; exact hq)
  have hgf : farA g (blocks (.slice A 0 0)) := fun _ b' off' hA hm => by have := hn b' off' hA; have := hold b' hm; omega
  refine ⟨by rw [List.map_append, List.length_append]; exact hl, fun q hqm => ?_, fun g' hg' => ?_, (h.since.later hX).out' ho h.nw⟩
  · have hm' : q9 = q := by simpa [Value.ownBlock] using hqm
    rw [← hm']
    rcases hq with hq | hq
    · exact h.nw q9 hq
    · rw [hq]; have := h.since.le; have := hX.size; omega
  · have key : ∀ x : FrmV, FrmIn X x → farA x (blocks (.slice A 0 0)) → FrmIn w9 x ∧ farA x (blocks (.slice (some ⟨q9, 0, none⟩) 0 0)) := fun x hx hxf => by
      refine ⟨hx.out ho hxf, fun hne b' off' hA hm => ?_⟩
      have hm' : q9 = b' := by simpa [Value.ownBlock] using hm
      subst hm'
      rcases hq with hq | hq
      · exact hxf hne q9 off' hA hq
      · exact farA_lt hx (Nat.le_of_eq hq.symm) hne q9 off' hA (by simp)
    rcases List.mem_append.1 hg' with hm | hm
    · obtain ⟨e1, e2⟩ := h.each g' hm
      exact key g' (e1.later hX) e2
    · rw [List.mem_singleton.1 hm]; exact key g hg hgf
theorem FlSt.frms {w wr : World} {A : Option Addr} {k : Nat} {Ms : List FrmV} (h : FlSt w wr A k Ms) : FrmsIn wr (.slice A Ms.length k) Ms := ⟨fun g hg => (h.each g hg).1, Rd.of_lst h.ls⟩
/-- a block of one number -/
theorem ints_one {X : World} {B : Nat} {z : Int} (h : BlockIs X B 3 #[.int .i64 z]) (h1 : -9223372036854775808 ≤ z ∧ z ≤ 9223372036854775807) : IntsIn X (.slice (some ⟨B, 0, none⟩) 1 1) [z] := by
  refine ⟨fun n hn => by rw [List.mem_singleton.1 hn]; exact h1, some ⟨B, 0, none⟩, 1, rfl, by simp, by unfold maxLen; decide, fun _ => ⟨B, 0, rfl, h.lt, fun i hi => ?_⟩⟩
  have : i = 0 := by simp at hi; omega
  subst this
  exact h.cell 0
theorem newA_at {B n : Nat} (h : n ≤ B) : newA (some ⟨B, 0, none⟩) n := fun b off e => by
  simp only [Option.some.injEq, Addr.mk.injEq] at e
  omega
theorem newA_lst {W : World} {E size n c N : Nat} {A : Option Addr} {es : List (List Value)} (h : Lst W E size (.slice A n c) es) (hk : ∀ q, q ∈ blocks (.slice A 0 0) → N ≤ q) : newA A N := fun b off e => by
  subst e
  obtain ⟨A9, c9, e9, _, _, h9⟩ := h.shape
  simp only [Value.slice.injEq] at e9
  rcases h9 with ⟨h9, _⟩ | ⟨g9, h9⟩
  · rw [h9] at e9; exact absurd e9.1 (by simp)
  · rw [h9] at e9
    simp only [Option.some.injEq, Addr.mk.injEq] at e9
    obtain ⟨⟨rfl, rfl, _⟩, _⟩ := e9
    exact hk b (by rw [blocks_at]; simp)
theorem Lst.apart2 {w : World} {E1 E2 k1 k2 : Nat} {v1 v2 : Value} {es1 es2 : List (List Value)} (h1 : Lst w E1 k1 v1 es1) (h2 : Lst w E2 k2 v2 es2) (ne : E1 ≠ E2) : ∀ k, k ∈ blocks v1 → k ∉ blocks v2 := by
  intro k hk hk2
  rcases h1.own.2 with ⟨rfl, _⟩ | ⟨g, cap, cur, rfl, _, hg, _⟩
  · simp [blocks, Value.ownBlock] at hk
  · rw [blocks_at, List.mem_singleton] at hk
    subst hk
    exact h2.apart (cs := cur) hg ne hk2
theorem Own.rebase {w w' : World} {S : List Nat} {L : List Thing} (h : Own w S w L) (hb : Below w.heap.size w w') : Own w' S w' L := by
  obtain ⟨own, ho⟩ := h.has
  refine ⟨Out.refl _ _, own, fun i t hi => ?_⟩
  obtain ⟨Si, h1, h2⟩ := ho i t hi
  refine ⟨Si, t.later h1 hb, fun k hk => ⟨(h2 k hk).1, Or.inl ?_⟩⟩
  have := t.lt h1 k hk
  rcases (h2 k hk).2 with h3 | h3
  · exact h3
  · omega
theorem EnIn.later {w w' : World} {S : List Nat} {g : Nat} {s : EnS} {p : EnP} (h : EnIn w S g s p) (hb : Below w.heap.size w w') : EnIn w' S g s p := ⟨h.ok, h.len, h.own.rebase hb⟩
set_option maxHeartbeats 3200000 in
set_option maxRecDepth 100000 in
theorem emake (g : Nat) (s : EnS) (w : World) (S : List Nat) (h : (endT g s).is w S) (hK : KTab w) (h1000 : s.made.length ≤ 1000) :
    Calls Tryz.prog 16 #[.pointer (some ⟨g, 0, none⟩)] w fun e w' => e = .returned (.string ⟨s.packet.toArray⟩) ∧ Leaves w w' S (endT g s.make) := by
  obtain ⟨p, hp⟩ := endT_open h
  have H := Lib.hid hp
  have HK := Lib.hid hK
  have c64 := hp.c64
  have lg := hp.bg.lt
  obtain ⟨Ac, cc, hcv, -, -, -⟩ := hp.lc.shape
  rw [List.length_map] at hcv
  rw [hcv] at c64
  have HRC : Hid (Rd w 2 (.slice Ac s.came.length cc) (s.came.map rngRow)) := Lib.hid (by rw [← hcv]; exact Rd.of_lst hp.lc)
  have HC12 := Lib.hid (rngE_len hp.ok.cm)
  have HX : Hid (∀ X, Since w X → X.cell? ⟨g, 62, none⟩ = some p.mv ∧ X.cell? ⟨g, 63, none⟩ = some (.int .i64 s.known) ∧ X.cell? ⟨g, 66, none⟩ = some (.pointer (some ⟨p.gl, 0, none⟩)) ∧ g < X.heap.size) := Lib.hid (fun X hX => ⟨hX.cell hp.bg.lt hp.c62, hX.cell hp.bg.lt hp.c63, hX.cell hp.bg.lt hp.c66, Nat.lt_of_lt_of_le hp.bg.lt hX.size⟩)
  have HF0 := Lib.hid (FlSt.start (Since.refl w))
  obtain ⟨Am, cm, hmv, -, -, -⟩ := hp.lm.shape
  rw [List.length_map, hp.len] at hmv
  have HMV := Lib.hid hmv
  clear h hp hK hcv hmv
  go_enter Tryz.func16, Tryz.ntmps16
  trace "A"; repeat ((fail_if_success (with_reducible refine stop_at 2 ?_)); first | fail | go_values | go_skip | go_guarded | go_step | go_upon | go_back | go_simp)
  go_cut [3] (fun s3 wx => ∃ A k Ms, s3 = .slice A Ms.length k ∧ FlSt w wx A k Ms ∧ Ms.map (·.f) = ackFs s.came)
  case first =>
    by_cases h0 : s.came = []
    · have hE : Hid (ackFs s.came = []) := Lib.hid (by unfold ackFs; rw [if_pos h0])
      rw [h0] at c64
      clear h0
      go_wp2_with fail
      go_meet
      case rel => exact ⟨none, 0, [], rfl, HF0.out, hE.out.symm⟩
    · have hE : Hid (ackFs s.came = [⟨2, unpairs s.came, ByteArray.empty⟩]) := Lib.hid (by unfold ackFs; rw [if_neg h0])
      have hl0 : (0 : Int) < (s.came.length : Int) := by have := List.length_pos_iff.2 h0; omega
      have hu := unpairs_len s.came
      have hb30 := rngE_ok H.out.ok.cm
      have HG : Hid (∀ (X : World) A1 c1, Lst X 3 1 (.slice A1 (2 * s.came.length) c1) ((unpairs s.came).map intRow) → FrmIn X ⟨⟨2, unpairs s.came, ByteArray.empty⟩, A1, c1⟩) := Lib.hid (fun X A1 c1 hl => by
        rw [← hu] at hl
        exact ⟨show -9223372036854775808 ≤ (2 : Int) ∧ (2 : Int) ≤ 9223372036854775807 by decide, by show ByteArray.empty.size ≤ maxLen; simp [maxLen], ints_of_lst hl (fun z hz => by
          obtain ⟨r, hr, hz⟩ := List.mem_flatMap.1 hz
          obtain ⟨⟨a1, a2⟩, b1, b2⟩ := hb30 r hr
          simp at hz
          rcases hz with rfl | rfl <;> omega)⟩)
      have HU := Lib.hid hu
      clear hu hb30
      trace "B"; go_wp2_with (first
        | (go_at_call 65; refine (facked Ac s.came.length cc s.came _ rfl (by have := HC12.out; omega) HRC.out).mono ?_; rintro e w1 ⟨A1, c1, rfl, hl1, hb1, hk1⟩; have HL1 := Lib.hid hl1; have HB1 := Lib.hid hb1; have HK1 := Lib.hid hk1; clear hl1 hb1 hk1)
        | (at_builtin; refine wpList_push rfl _ _ 104 rfl 103 3 48 Tryz.elFrm (.slice none 0 0) [] rfl (Lst.nil _ _ _) w1.heap.size 1 [.int .i64 2, .slice A1 (2 * s.came.length) c1, .string ⟨#[]⟩] rfl rfl (by intro u hu; simp at hu; rcases hu with rfl | rfl | rfl <;> rfl) (BlockIs.fresh _ _ _) (by simp) ?_; intro q cq w5 hl5 ho5 hq5 hlt5))
      go_meet
      case rel =>
        refine ⟨some ⟨q, 0, none⟩, cq, [⟨⟨2, unpairs s.came, ByteArray.empty⟩, A1, c1⟩], rfl, ?_, hE.out.symm⟩
        have hb1 : Since w w1 := HB1.out
        have hX : Below w.heap.size w (w1.alloc (.cells #[.int .i64 2, .slice A1 (2 * s.came.length) c1, .string ⟨#[]⟩] 103)) := (show Since w _ from (by refine Since.out ?_; repeat (first | with_reducible assumption | with_reducible exact Since.refl _ | with_reducible refine Since.later ?_ (by with_reducible assumption) | with_reducible refine Since.only ?_ (by with_reducible assumption) (by first | assumption | omega | (simp; done) | (simp; omega)) | with_reducible refine Since.alloc ?_ _ | with_reducible refine Since.drewN ?_ _ | with_reducible refine Since.drew ?_ | with_reducible refine Since.set ?_ (by first | assumption | omega | (simp; done) | (simp; omega)) _)))
        refine HF0.out.step (g := ⟨⟨2, unpairs s.came, ByteArray.empty⟩, A1, c1⟩) hX (HG.out _ A1 c1 (HL1.out.alloc _)) (fun b off e => ?_) ?_ ho5 hq5
        · exact newA_lst HL1.out HK1.out b off e
        · have e : frmRow ⟨⟨2, unpairs s.came, ByteArray.empty⟩, A1, c1⟩ = [.int .i64 2, .slice A1 (2 * s.came.length) c1, .string ⟨#[]⟩] := by unfold frmRow; rw [HU.out]; rfl
          rw [e]; exact hl5
  case rest =>
    obtain ⟨A, k, Ms, rfl, hf, hms⟩ := hcut
    have HF := Lib.hid hf
    have HMS := Lib.hid hms
    have hs : Since w wc := hf.since
    obtain ⟨d62, d63, d66, lx⟩ := HX.out wc hf.since
    obtain ⟨m, hm⟩ : ∃ m, Ms.length = m := ⟨_, rfl⟩
    have HM := Lib.hid hm
    have hm1 : m ≤ 1 := by
      have e := congrArg List.length hms
      rw [List.length_map, hm] at e
      rw [e]; unfold ackFs; split <;> simp
    obtain ⟨es, hes⟩ : ∃ es, Ms.map frmRow = es := ⟨_, rfl⟩
    have HES : Hid (es.length = m) := Lib.hid (by rw [← hes, List.length_map]; exact hm)
    have HEQ := Lib.hid hes
    have HLS : Hid (Lst wc 103 3 (.slice A m k) es) := Lib.hid (by have := hf.ls; rw [hes, hm] at this; exact this)
    have HLL : Hid (MayBe s.L) := Lib.hid (by have := H.out.ok.cr; have := this.l1; have := H.out.ok.cr.w1; have := H.out.ok.cr.l2; unfold MayBe; omega)
    rw [hm]
    clear hf hms hm hes
    trace "C"; go_upto_region 5 with (first
      | (go_at_call 66; refine (climit p.gl s.W s.L s.C s.R _ (H.out.bl.later hs)).mono ?_; rintro e w1 ⟨rfl, rfl⟩)
      | (at_builtin; refine wpList_push rfl _ _ 104 rfl 103 3 48 Tryz.elFrm (.slice A m k) es rfl ((HLS.out.alloc _).alloc _) (wc.heap.size + 1) 1 [.int .i64 4, .slice (some ⟨wc.heap.size, 0, none⟩) 1 1, .string ⟨#[]⟩] rfl rfl (by intro u hu; simp at hu; rcases hu with rfl | rfl | rfl <;> rfl) (BlockIs.fresh_at (by simp)) (by rw [HES.out]; omega) ?_; intro q cq w5 hl5 ho5 hq5 hlt5; rw [HES.out] at hl5; rw [HES.out]))
    have HF5 : Hid (FlSt w w5 (some ⟨q, 0, none⟩) cq (Ms ++ [⟨⟨4, [s.L], ByteArray.empty⟩, some ⟨wc.heap.size, 0, none⟩, 1⟩])) := Lib.hid (by
      have hX : Below wc.heap.size wc ((wc.alloc (.cells #[.int .i64 s.L] 3)).alloc (.cells #[.int .i64 4, .slice (some ⟨wc.heap.size, 0, none⟩) 1 1, .string ⟨#[]⟩] 103)) := (show Since wc _ from (by refine Since.out ?_; repeat (first | with_reducible assumption | with_reducible exact Since.refl _ | with_reducible refine Since.later ?_ (by with_reducible assumption) | with_reducible refine Since.only ?_ (by with_reducible assumption) (by first | assumption | omega | (simp; done) | (simp; omega)) | with_reducible refine Since.alloc ?_ _ | with_reducible refine Since.drewN ?_ _ | with_reducible refine Since.drew ?_ | with_reducible refine Since.set ?_ (by first | assumption | omega | (simp; done) | (simp; omega)) _)))
      have hmb := HLL.out
      unfold MayBe at hmb
      refine HF.out.step (g := ⟨⟨4, [s.L], ByteArray.empty⟩, some ⟨wc.heap.size, 0, none⟩, 1⟩) hX ⟨show -9223372036854775808 ≤ (4 : Int) ∧ (4 : Int) ≤ 9223372036854775807 by decide, by show ByteArray.empty.size ≤ maxLen; simp [maxLen], ints_one ((BlockIs.fresh _ _ _).alloc _) (by omega)⟩ (newA_at (Nat.le_refl _)) ?_ ?_ ?_
      · rw [HM.out, HEQ.out]; exact hl5
      · rw [HM.out]; exact ho5
      · rw [HM.out]; exact hq5)
    have HM5 : Hid ((Ms ++ [(⟨⟨4, [s.L], ByteArray.empty⟩, some ⟨wc.heap.size, 0, none⟩, 1⟩ : FrmV)]).map (·.f) = ackFs s.came ++ [⟨4, [s.L], ByteArray.empty⟩]) := Lib.hid (by rw [List.map_append, HMS.out]; rfl)
    have HL5 : Hid ((Ms ++ [(⟨⟨4, [s.L], ByteArray.empty⟩, some ⟨wc.heap.size, 0, none⟩, 1⟩ : FrmV)]).length = m + 1) := Lib.hid (by rw [List.length_append, HM.out]; rfl)
    obtain ⟨M5, hM5⟩ : ∃ M, Ms ++ [(⟨⟨4, [s.L], ByteArray.empty⟩, some ⟨wc.heap.size, 0, none⟩, 1⟩ : FrmV)] = M := ⟨_, rfl⟩
    rw [hM5] at HF5 HM5 HL5
    have hs5 : Since w w5 := HF5.out.since
    clear hl5 ho5 hq5 hM5 HF HMS HM HES HEQ HLS d62 d63 d66 lx
    trace "D"; go_wp2_with (go_at_call 67; refine (epieces g s p _ S (H.out.later hs5)).mono ?_; rintro e w6 ⟨Ap, cp, rfl, hl6, hb6, hk6⟩)
    have hs6 : Since w w6 := hs5.later hb6
    have HF6 := Lib.hid (HF5.out.later hb6)
    have HKW : Hid (∀ k, k ∈ blocks (.slice Ap 0 0) → w.heap.size ≤ k) := Lib.hid (fun k hk => Nat.le_trans hs5.size (hk6 k hk))
    have HP6 := Lib.hid hl6
    have HK6 := Lib.hid hk6
    obtain ⟨np, hnp⟩ : ∃ n, s.pieces.length = n := ⟨_, rfl⟩
    have HNP := Lib.hid hnp
    have hnp3 : np ≤ 3 := by rw [← hnp]; exact pieces_len s
    rw [hnp] at HP6
    rw [hnp]
    clear hl6 hk6 hnp HF5
    trace "E"; go_wp2_with fail
    trace "F"; go_loopw [3, 36] (fun s3 s36 wr => ∃ (j k : Nat) (A : Option Addr) (Ms : List FrmV), s36 = .int .i64 j ∧ j ≤ np ∧ s3 = .slice A (m + 1 + j) k ∧ Ms.length = m + 1 + j ∧ FlSt w wr A k Ms ∧ Ms.map (·.f) = ackFs s.came ++ ⟨4, [s.L], ByteArray.empty⟩ :: (s.pieces.take j).map pcFrm ∧ Lst wr 129 2 (.slice Ap np cp) (s.pieces.map pcRow)) (fun s3 s36 _ => np - (intOf s36).toNat)
    case atStart => exact ⟨0, cq, some ⟨q, 0, none⟩, M5, rfl, Nat.zero_le _, rfl, HL5.out, HF6.out, by rw [HM5.out, List.take_zero]; rfl, HP6.out⟩
    case round =>
      obtain ⟨j, k2, A3, Mj, rfl, hj, rfl, hmj, hfj, hmm, hsj⟩ := hrel
      have HFJ := Lib.hid hfj
      have HMJ := Lib.hid hmm
      have HLJ := Lib.hid hmj
      clear hfj hmm hmj
      by_cases hlt : j < np
      case neg =>
        obtain rfl : j = np := by omega
        have hlt' : decide ((j : Int) < (j : Int)) = false := by simp
        trace "G"; go_wp2_with fail
        have hsr : Since w wr := HFJ.out.since
        obtain ⟨d62, d63, -, lx⟩ := HX.out wr hsr
        rw [HMV.out] at d62
        have hpk : pktB (s.made.length : Int) s.known (Mj.map (·.f)) = s.packet := by
          rw [HMJ.out, show s.pieces.take j = s.pieces by rw [← HNP.out, List.take_length]]; rfl
        have HPK : Hid (∀ X, Since wr X → Calls Tryz.prog 68 #[.int .i64 s.made.length, .int .i64 s.known, .slice A3 (m + 1 + j) k2] X fun e w' => e = .returned (.string ⟨s.packet.toArray⟩) ∧ Below X.heap.size X w') := Lib.hid (fun X hX => by
          have hfr := H.out.ok.framesOk.1
          have h1 := pkbytes (s.made.length : Int) s.known A3 (m + 1 + j) k2 Mj X HLJ.out (by omega) (by have := (HFJ.out.later hX).frms; rw [HLJ.out] at this; exact this) (by
            rw [HMJ.out, show s.pieces.take j = s.pieces by rw [← HNP.out, List.take_length]]
            exact frmsE_of hfr) (H.out.ok.packetOk (by omega)).2.1 (HK.out.later (hsr.later hX))
          rw [hpk] at h1
          exact h1)
        clear hpk
        trace "H"; go_region_law (go_simp; go_at_call 68; refine (HPK.out _ (show Since wr _ from (by refine Since.out ?_; repeat (first | with_reducible assumption | with_reducible exact Since.refl _ | with_reducible refine Since.later ?_ (by with_reducible assumption) | with_reducible refine Since.only ?_ (by with_reducible assumption) (by first | assumption | omega | (simp; done) | (simp; omega)) | with_reducible refine Since.alloc ?_ _ | with_reducible refine Since.drewN ?_ _ | with_reducible refine Since.drew ?_ | with_reducible refine Since.set ?_ (by first | assumption | omega | (simp; done) | (simp; omega)) _)))).mono ?_; rintro e w7 ⟨rfl, hb7⟩; have HS7 := Lib.hid (show Since wr w7 from (by refine Since.out ?_; repeat (first | with_reducible assumption | with_reducible exact Since.refl _ | with_reducible refine Since.later ?_ (by with_reducible assumption) | with_reducible refine Since.only ?_ (by with_reducible assumption) (by first | assumption | omega | (simp; done) | (simp; omega)) | with_reducible refine Since.alloc ?_ _ | with_reducible refine Since.drewN ?_ _ | with_reducible refine Since.drew ?_ | with_reducible refine Since.set ?_ (by first | assumption | omega | (simp; done) | (simp; omega)) _))); clear hb7)
        all_goals
          have hs7 : Since w w7 := hsr.later HS7.out
          obtain ⟨e62, -, -, lx7⟩ := HX.out w7 hs7
          rw [HMV.out] at e62
          have HO7 : Hid (Own w S w7 (enParts g s p ++ [Thing.lst 129 2 (.slice Ap j cp) (s.pieces.map pcRow)])) := Lib.hid (H.out.own.add hs7 (S := blocks (.slice Ap j cp)) ⟨hsj.later HS7.out, rfl⟩ (fun k hk => HKW.out k (blocks_any Ap _ _ _ _ ▸ hk)))
          have fz7 : ∀ i, w7.frozen? ⟨g, i, none⟩ = false := (HO7.out.blk 0 rfl).free
          obtain ⟨es, hes⟩ : ∃ es, (p.vs.map fun v => [v]) = es := ⟨_, rfl⟩
          have HES : Hid (es.length = s.made.length) := Lib.hid (by rw [← hes, List.length_map]; exact H.out.len)
          have HL7 : Hid (Lst w7 126 1 (.slice Am s.made.length cm) es) := Lib.hid (by have := HO7.out.ls 3 rfl; rw [hes, HMV.out] at this; exact this)
          have HEQ := Lib.hid hes
          clear hes d62 d63
          trace "I"; go_wp2_with (at_builtin; refine wpList_push rfl _ _ 43 rfl 126 1 24 Tryz.elPcs (.slice Am s.made.length cm) es rfl (HL7.out.alloc _) w7.heap.size 1 [.slice Ap j cp] rfl rfl (by intro u hu; simp at hu; rw [hu]; rfl) (BlockIs.fresh _ _ _) (by rw [HES.out]; omega) ?_; intro q8 c8 w8 hl8 ho8 hq8 hlt8; rw [HES.out] at hl8; rw [HES.out]; have hb8 := ho8.block' ((HO7.out.blk 0 rfl).alloc _) (HL7.out.apart (HO7.out.blk 0 rfl) (by decide)); have x62 : w8.cell? ⟨g, 62, none⟩ = some p.mv := (hb8.cell 62).trans (enCells_tail _ _ _ _ H.out.ok.tl 1); have fz8 := hb8.free; have lx8 := hb8.lt)
          have HO8 : Hid (Own w S w8 ((enParts g s p ++ [Thing.lst 129 2 (.slice Ap j cp) (s.pieces.map pcRow)]).set 3 (Thing.lst 126 1 (.slice (some ⟨q8, 0, none⟩) (s.made.length + 1) c8) (es ++ [[.slice Ap j cp]])))) := Lib.hid (by
            obtain ⟨S3, ⟨h3, h3'⟩, up⟩ := (HO7.out.later ((Since.refl w7).alloc (.cells #[.slice Ap j cp] 126))).at_ 3 rfl
            have hS3 : S3 = blocks (.slice Am s.made.length cm) := by rw [h3', HMV.out]
            refine up w8 _ ⟨blocks (.slice (some ⟨q8, 0, none⟩) (s.made.length + 1) c8), ⟨hl8, rfl⟩, by rw [hS3]; exact ho8, fun k hk => ?_⟩
            have e8 : k = q8 := by rw [blocks_at] at hk; simpa using hk
            subst e8
            rcases hq8 with h9 | h9
            · left; rw [hS3]; exact h9
            · right; rw [h9]; exact Nat.le_refl _)
          have HO9 := Lib.hid (HO8.out.put 0 rfl 62 (.slice (some ⟨q8, 0, none⟩) (s.made.length + 1) c8))
          clear hb8 hl8 ho8 hq8
          trace "J"; go_wp2_with fail
          go_ret
          refine ⟨rfl, endT_close (p := ⟨p.gi, p.gl, .slice (some ⟨q8, 0, none⟩) (s.made.length + 1) c8, p.cv, p.vs ++ [.slice Ap j cp]⟩) H.out.ok.make (by show (p.vs ++ [_]).length = (s.made ++ [_]).length; simp [H.out.len]) ?_⟩
          have h9 := HO9.out
          rw [enCells_62 _ _ _ _ H.out.ok.tl] at h9
          have e9 : enParts g s.make ⟨p.gi, p.gl, .slice (some ⟨q8, 0, none⟩) (s.made.length + 1) c8, p.cv, p.vs ++ [.slice Ap j cp]⟩ = ((enParts g s p ++ [Thing.lst 129 2 (.slice Ap j cp) (s.pieces.map pcRow)]).set 3 (Thing.lst 126 1 (.slice (some ⟨q8, 0, none⟩) (s.made.length + 1) c8) (es ++ [[.slice Ap j cp]]))).set 0 (Thing.block g 117 (enCells s (.slice (some ⟨q8, 0, none⟩) (s.made.length + 1) c8) p.cv p.gi p.gl).toArray) := by
            have e1 : inner (p.vs ++ [.slice Ap j cp]) (s.made ++ [s.pieces]) = inner p.vs s.made ++ [Thing.lst 129 2 (.slice Ap j cp) (s.pieces.map pcRow)] := inner_snoc _ _ H.out.len
            have e2 : (p.vs ++ [Value.slice Ap j cp]).map (fun v => [v]) = es ++ [[.slice Ap j cp]] := by rw [List.map_append, HEQ.out]; rfl
            show Thing.block _ _ _ :: Thing.block _ _ _ :: Thing.block _ _ _ :: Thing.lst _ _ _ ((p.vs ++ [Value.slice Ap j cp]).map (fun v => [v])) :: Thing.lst _ _ _ _ :: inner (p.vs ++ [.slice Ap j cp]) (s.made ++ [s.pieces]) = _
            rw [e1, e2]
            rfl
          rw [e9]
          exact h9
      have hjp : j < s.pieces.length := by rw [HNP.out]; exact hlt
      have hl6 := hsj
      have HSJ := Lib.hid hsj
      obtain ⟨b2, hA2, lb2, p0, p1⟩ := hl6.pc hjp
      have hpc := H.out.ok.piece (List.getElem_mem hjp)
      have hla := H.out.ok.last
      have HTK := Lib.hid (List.take_succ_eq_append_getElem hjp)
      obtain ⟨⟨a, d⟩, hpp⟩ : ∃ x, s.pieces[j] = x := ⟨_, rfl⟩
      rw [hpp] at p0 p1 HTK hpc
      dsimp only at p0 p1 hpc
      have hd20 : d.size ≤ 20 := hpc.1.2.2
      have ha60 : a ≤ 60 := by have := hpc.1.1; omega
      have hlt' : (j : Int) < (np : Int) := by omega
      have hmj5 : m + 1 + j ≤ 5 := by omega
      obtain ⟨es, hes⟩ : ∃ es, Mj.map frmRow = es := ⟨_, rfl⟩
      have HES : Hid (es.length = m + 1 + j) := Lib.hid (by rw [← hes, List.length_map]; exact HLJ.out)
      have HEQ := Lib.hid hes
      have HLS : Hid (Lst wr 103 3 (.slice A3 (m + 1 + j) k2) es) := Lib.hid (by have := HFJ.out.ls; rw [hes, HLJ.out] at this; exact this)
      subst hA2
      clear hl6 hpc hla hpp hes hjp
      obtain ⟨mm, hmm⟩ : ∃ x, m + 1 + j = x := ⟨_, rfl⟩
      have HMM := Lib.hid hmm
      rw [hmm] at HES HLS hmj5 HLJ
      rw [hmm]
      clear hmm
      trace "K"; go_wp2_with (at_builtin; refine wpList_push rfl _ _ 104 rfl 103 3 48 Tryz.elFrm (.slice A3 mm k2) es rfl (((HLS.out.alloc _).alloc _).alloc _) (wr.heap.size + 1 + 1) 1 [.int .i64 3, .slice (some ⟨wr.heap.size + 1, 0, none⟩) 1 1, .string d] rfl rfl (by intro u hu; simp at hu; rcases hu with rfl | rfl | rfl <;> rfl) (BlockIs.fresh_at (by simp)) (by rw [HES.out]; omega) ?_; intro q9 c9 w9 hl9 ho9 hq9 hlt9; rw [HES.out] at hl9; rw [HES.out])
      have HF9 : Hid (FlSt w w9 (some ⟨q9, 0, none⟩) c9 (Mj ++ [⟨⟨3, [(a : Int)], d⟩, some ⟨wr.heap.size + 1, 0, none⟩, 1⟩])) := Lib.hid (by
        have hX : Below wr.heap.size wr (((wr.alloc (.cells #[.int .i64 a, .string d] 129)).alloc (.cells #[.int .i64 a] 3)).alloc (.cells #[.int .i64 3, .slice (some ⟨wr.heap.size + 1, 0, none⟩) 1 1, .string d] 103)) := (show Since wr _ from (by refine Since.out ?_; repeat (first | with_reducible assumption | with_reducible exact Since.refl _ | with_reducible refine Since.later ?_ (by with_reducible assumption) | with_reducible refine Since.only ?_ (by with_reducible assumption) (by first | assumption | omega | (simp; done) | (simp; omega)) | with_reducible refine Since.alloc ?_ _ | with_reducible refine Since.drewN ?_ _ | with_reducible refine Since.drew ?_ | with_reducible refine Since.set ?_ (by first | assumption | omega | (simp; done) | (simp; omega)) _)))
        refine HFJ.out.step (g := ⟨⟨3, [(a : Int)], d⟩, some ⟨wr.heap.size + 1, 0, none⟩, 1⟩) hX ⟨show -9223372036854775808 ≤ (3 : Int) ∧ (3 : Int) ≤ 9223372036854775807 by decide, by show d.size ≤ maxLen; simp [maxLen]; omega, ints_one ((BlockIs.fresh_at (by simp)).alloc _) (by omega)⟩ (newA_at (by omega)) ?_ ?_ ?_
        · rw [HLJ.out, HEQ.out]; exact hl9
        · rw [HLJ.out]; exact ho9
        · rw [HLJ.out]; exact hq9)
      have hs9 : Lst w9 129 2 (.slice (some ⟨b2, 0, none⟩) np cp) (s.pieces.map pcRow) := (((HSJ.out.alloc _).alloc _).alloc _).kept ho9 (HSJ.out.apart2 HLS.out (by decide))
      clear hl9 ho9 hq9
      trace "L"; go_wp2_with fail
      go_roundw
      case rel => exact ⟨j + 1, c9, some ⟨q9, 0, none⟩, _, by go_num, by omega, by have := HMM.out; rw [← this]; rfl, by rw [List.length_append, HLJ.out]; have := HMM.out; simp; omega, HF9.out, by rw [List.map_append, HMJ.out, HTK.out, List.map_append]; simp [pcFrm], hs9⟩
      case measure => simp [intOf]; omega
end Go.Proofs.YtaindcicloapfaaGreatDoor

/-! Contract of an end's Take. Condition: the blocks hold an end as New and the calls leave it, there were no more than 1000 packets, the tables lie there. -/
namespace Go.Proofs.YtaindcicloapfaaGreatDoor
open Go.ChangeShapes Go.WideShapes Go.ChangeAt Go.RowKit
set_option linter.unusedVariables false

/-- three new blocks more -/
theorem Own.add3 {w0 w w' : World} {S0 : List Nat} {L : List Thing} (h : Own w0 S0 w L) (hb : Below w.heap.size w w') {g1 g2 g3 : Nat} {t1 t2 t3 : TypeId} {c1 c2 c3 : Array Value} (h1 : BlockIs w' g1 t1 c1) (h2 : BlockIs w' g2 t2 c2) (h3 : BlockIs w' g3 t3 c3)
    (e1 : w.heap.size ≤ g1) (e2 : w.heap.size ≤ g2) (e3 : w.heap.size ≤ g3) (n1 : g1 ≠ g2) (n2 : g1 ≠ g3) (n3 : g2 ≠ g3) : Own w0 S0 w' (L ++ [Thing.block g1 t1 c1, Thing.block g2 t2 c2, Thing.block g3 t3 c3]) := by
  obtain ⟨own, ho⟩ := h.has
  have hs := h.out.size
  refine ⟨h.out.later hb, fun k => if k < w.heap.size then own k else if k = g1 then L.length else if k = g2 then L.length + 1 else L.length + 2, fun i t hi => ?_⟩
  rcases Nat.lt_or_ge i L.length with hl | hl
  · rw [List.getElem?_append_left hl] at hi
    obtain ⟨S, a, b⟩ := ho i t hi
    exact ⟨S, t.later a hb, fun k hk => ⟨(if_pos (t.lt a k hk)).trans (b k hk).1, (b k hk).2⟩⟩
  · rw [List.getElem?_append_right hl] at hi
    obtain ⟨d, rfl⟩ : ∃ d, i = L.length + d := ⟨i - L.length, by omega⟩
    rw [Nat.add_sub_cancel_left] at hi
    match d, hi with
    | 0, hi =>
      simp only [List.getElem?_cons_zero, Option.some.injEq] at hi
      subst hi
      exact ⟨[g1], ⟨h1, rfl⟩, fun k hk => by
        rw [List.mem_singleton.1 hk]
        exact ⟨by dsimp only; rw [if_neg (by omega), if_pos rfl]; rfl, Or.inr (by omega)⟩⟩
    | 1, hi =>
      simp only [List.getElem?_cons_succ, List.getElem?_cons_zero, Option.some.injEq] at hi
      subst hi
      exact ⟨[g2], ⟨h2, rfl⟩, fun k hk => by
        rw [List.mem_singleton.1 hk]
        exact ⟨by dsimp only; rw [if_neg (by omega), if_neg (by omega), if_pos rfl], Or.inr (by omega)⟩⟩
    | 2, hi =>
      simp only [List.getElem?_cons_succ, List.getElem?_cons_zero, Option.some.injEq] at hi
      subst hi
      exact ⟨[g3], ⟨h3, rfl⟩, fun k hk => by
        rw [List.mem_singleton.1 hk]
        exact ⟨by dsimp only; rw [if_neg (by omega), if_neg (by omega), if_neg (by omega)], Or.inr (by omega)⟩⟩
    | d + 3, hi => simp at hi
/-- some of them, in another order -/
theorem Own.pickf {w0 w : World} {S0 : List Nat} {L L' : List Thing} (h : Own w0 S0 w L) (f g : Nat → Nat) (hg : ∀ i, i < L'.length → g (f i) = i) (hL : ∀ (i : Nat) t, L'[i]? = some t → L[f i]? = some t) : Own w0 S0 w L' := by
  obtain ⟨own, ho⟩ := h.has
  refine ⟨h.out, fun k => g (own k), fun i t hi => ?_⟩
  obtain ⟨S, a, b⟩ := ho (f i) t (hL i t hi)
  exact ⟨S, a, fun k hk => ⟨by show g (own k) = i; rw [(b k hk).1]; exact hg i (List.getElem?_eq_some_iff.1 hi).1, (b k hk).2⟩⟩
theorem takes_app (A B : List Frm) : ∀ s : EnS, s.takes (A ++ B) = if (s.takes A).1 = 0 then (s.takes A).2.takes B else s.takes A := by
  induction A with
  | nil => intro s; simp [EnS.takes]
  | cons f A ih =>
    intro s
    rw [List.cons_append, EnS.takes, EnS.takes]
    by_cases h : s.take1E f = 0
    · rw [if_pos h, if_pos h, ih]
    · rw [if_neg h, if_neg h, if_neg h]
theorem takes_one (s : EnS) (f : Frm) : s.takes [f] = (s.take1E f, s.take1 f) := by
  rw [EnS.takes]
  by_cases h : s.take1E f = 0
  · rw [if_pos h, h]; rfl
  · rw [if_neg h]
theorem takes_succ {s : EnS} {L : List Frm} {i : Nat} (h : i < L.length) (h0 : (s.takes (L.take i)).1 = 0) : s.takes (L.take (i + 1)) = ((s.takes (L.take i)).2.take1E L[i], (s.takes (L.take i)).2.take1 L[i]) := by
  rw [List.take_succ_eq_append_getElem h, takes_app, if_pos h0, takes_one]
theorem takes_stop {s : EnS} {L : List Frm} {i : Nat} (h0 : (s.takes (L.take i)).1 ≠ 0) : (s.takes L).1 = (s.takes (L.take i)).1 := by
  have e : s.takes L = s.takes (L.take i ++ L.drop i) := by rw [List.take_append_drop]
  rw [e, takes_app, if_neg h0]
theorem take1_made (s : EnS) (f : Frm) : (s.take1 f).made = s.made := by
  unfold EnS.take1
  repeat' split
  all_goals rfl
theorem takes_made (L : List Frm) : ∀ s : EnS, (s.takes L).2.made = s.made := by
  induction L with
  | nil => intro s; rfl
  | cons f r ih =>
    intro s
    rw [EnS.takes]
    split
    · rw [ih, take1_made]
    · exact take1_made s f
theorem FrmsIn.agg_at {w : World} {A : Option Addr} {n c : Nat} {Ms : List FrmV} (h : FrmsIn w (.slice A n c) Ms) (hn : Ms.length = n) {i : Nat} (hi : i < n) : ∃ b off, A = some ⟨b, off, none⟩ ∧ b < w.heap.size ∧ ∀ w', Since w w' → w'.cell? ⟨b, off + i * 3, none⟩ = some (.int .i64 (Ms[i]'(by omega)).f.kind) ∧ w'.cell? ⟨b, off + i * 3 + 1, none⟩ = some (.slice (Ms[i]'(by omega)).A (Ms[i]'(by omega)).f.nums.length (Ms[i]'(by omega)).cap) ∧ w'.cell? ⟨b, off + i * 3 + 2, none⟩ = some (.string (Ms[i]'(by omega)).f.data) := by
  have hi' : i < Ms.length := by omega
  obtain ⟨b, off, hA, hlt, hc⟩ := h.rd.frm hi'
  refine ⟨b, off, hA, hlt, fun w' hw => ?_⟩
  have := hc w' hw i hi'
  exact this
theorem openL_few (b : List UInt8) (next : Int) : (openL b next).length ≤ 12 := by
  unfold openL
  split
  · unfold openF
    cases hr : rdFs b ((bat b 0).toNat + 1) b.length with
    | none => simp
    | some p =>
      obtain ⟨L, k⟩ := p
      simp only
      split
      · simp
      · rename_i hx
        simp only [Option.getD_some]
        omega
  · simp
set_option maxHeartbeats 3200000 in
set_option maxRecDepth 100000 in
theorem etake (g : Nat) (s : EnS) (b : ByteArray) (w : World) (S : List Nat) (h : (endT g s).is w S) (hK : KTab w) (hC : CTab w) (h1000 : s.made.length ≤ 1000) (hz : b.size ≤ 9223372036854775000) :
    Calls Tryz.prog 18 #[.pointer (some ⟨g, 0, none⟩), .string b] w fun e w' => e = .returned (errV (s.takeE b.data.toList)) ∧ Leaves w w' S (endT g (s.take b.data.toList)) := by
  have H0 := Lib.hid h
  obtain ⟨p, hp⟩ := endT_open h
  have H := Lib.hid hp
  have HK := Lib.hid hK
  have HC := Lib.hid hC
  have HN := Lib.hid (fun (X : World) (hX : Since w X) => enext g s X S ((endT g s).later h hX))
  have HPS := Lib.hid (fun (X : World) (hX : Since w X) (z : Int) => pkparse b z X (by omega) (hK.later hX) (hC.later hX))
  obtain ⟨l, hl⟩ : ∃ l, b.data.toList = l := ⟨_, rfl⟩
  rw [hl] at HPS
  obtain ⟨RE, hRE⟩ : ∃ E, s.takeE b.data.toList = E := ⟨_, rfl⟩
  obtain ⟨RS, hRS⟩ : ∃ E, s.take b.data.toList = E := ⟨_, rfl⟩
  rw [hRE, hRS]
  rw [hl] at hRE hRS
  obtain ⟨nx, hnx⟩ : ∃ n, nextN s.came = n := ⟨_, rfl⟩
  have hE1 : Hid (openE l nx ≠ 0 → RE = openE l nx ∧ RS = s) := Lib.hid (fun h0 => ⟨by rw [← hRE]; unfold EnS.takeE; rw [hnx, if_neg h0], by rw [← hRS]; unfold EnS.take; rw [hnx, if_neg h0]⟩)
  have hE0 : Hid (openE l nx = 0 → RE = s.pktE (openN l nx) (openL l nx) ∧ RS = s.pkt (openN l nx) (openL l nx)) := Lib.hid (fun h0 => ⟨by rw [← hRE]; unfold EnS.takeE; rw [hnx, if_pos h0], by rw [← hRS]; unfold EnS.take; rw [hnx, if_pos h0]⟩)
  have HFO := Lib.hid (openL_ok l nx)
  have HFW := Lib.hid (openL_few l nx)
  rw [hnx] at HN
  have lg := hp.bg.lt
  clear h hp hK hC hl hRE hRS hnx
  go_enter Tryz.func18, Tryz.ntmps18
  trace "A"; go_wp2_with (go_at_call 70; refine (HN.out _ (by refine Since.out ?_; repeat (first | with_reducible assumption | with_reducible exact Since.refl _ | with_reducible refine Since.later ?_ (by with_reducible assumption) | with_reducible refine Since.only ?_ (by with_reducible assumption) (by first | assumption | omega | (simp; done) | (simp; omega)) | with_reducible refine Since.alloc ?_ _ | with_reducible refine Since.drewN ?_ _ | with_reducible refine Since.drew ?_ | with_reducible refine Since.set ?_ (by first | assumption | omega | (simp; done) | (simp; omega)) _))).mono ?_; rintro e w1 ⟨rfl, rfl⟩)
  refine (HPS.out _ (by refine Since.out ?_; repeat (first | with_reducible assumption | with_reducible exact Since.refl _ | with_reducible refine Since.later ?_ (by with_reducible assumption) | with_reducible refine Since.only ?_ (by with_reducible assumption) (by first | assumption | omega | (simp; done) | (simp; omega)) | with_reducible refine Since.alloc ?_ _ | with_reducible refine Since.drewN ?_ _ | with_reducible refine Since.drew ?_ | with_reducible refine Since.set ?_ (by first | assumption | omega | (simp; done) | (simp; omega)) _)) nx).mono ?_
  rintro e w1 ⟨A1, n1, c1, Ms, rfl, hb1, hf1, hn1, hm1⟩
  have hs1 : Since w w1 := hb1
  have HF1 := Lib.hid hf1
  have HM1 := Lib.hid hm1
  clear hf1 hm1 hb1 HPS HN
  by_cases hE : openE l nx = 0
  case neg =>
    have HH := Lib.hid (hE1.out hE)
    rw [errV_pos hE]
    have HEP := Lib.hid (errV_pos hE)
    obtain ⟨ee, hee⟩ : ∃ e, openE l nx = e := ⟨_, rfl⟩
    rw [hee] at HH HEP
    rw [hee]
    clear hE hee
    trace "B"; go_wp2_with fail
    go_ret
    rw [HH.out.1, HH.out.2, HEP.out]
    exact ⟨rfl, Leaves.same H0.out hs1⟩
  have HH := Lib.hid (hE0.out hE)
  rw [hE, errV_zero]
  clear hE
  obtain ⟨n, hn⟩ : ∃ n, openN l nx = n := ⟨_, rfl⟩
  obtain ⟨L, hL⟩ : ∃ L, openL l nx = L := ⟨_, rfl⟩
  rw [hn, hL] at HH
  rw [hL] at HM1 HFO HFW
  rw [hn]
  have hn12 : n1 ≤ 12 := by
    have h1 := congrArg List.length HM1.out
    rw [List.length_map, hn1] at h1
    have := HFW.out
    omega
  clear hn hL
  obtain ⟨c64, lx1⟩ : w1.cell? ⟨g, 64, none⟩ = some p.cv ∧ g < w1.heap.size := ⟨hs1.cell H.out.bg.lt H.out.c64, Nat.lt_of_lt_of_le H.out.bg.lt hs1.size⟩
  obtain ⟨Ac, cc, hcv, -, -, -⟩ := H.out.lc.shape
  rw [List.length_map] at hcv
  rw [hcv] at c64
  have HRC : Hid (Rd w 2 (.slice Ac s.came.length cc) (s.came.map rngRow)) := Lib.hid (by rw [← hcv]; exact Rd.of_lst H.out.lc)
  have HCV := Lib.hid hcv
  have HCM := Lib.hid H.out.ok.cm
  clear hcv
  trace "C"; go_wp2_with fail
  refine (rin_any Ac s.came.length cc s.came n _ rfl (HRC.out.later hs1)).mono ?_
  rintro e w2 ⟨rfl, hb2⟩
  have hs2 : Since w w2 := hs1.later hb2
  have HF2 := Lib.hid (HF1.out.later hb2)
  clear hb2 c64 lx1
  cases hin : inB s.came n with
  | true =>
    have HR : Hid (RE = 0 ∧ RS = s) := Lib.hid ⟨by rw [HH.out.1]; unfold EnS.pktE; rw [if_pos hin], by rw [HH.out.2]; unfold EnS.pkt; rw [if_pos hin]⟩
    clear hin
    trace "D"; go_wp2_with fail
    go_ret
    rw [HR.out.1, HR.out.2, errV_zero]
    exact ⟨rfl, Leaves.same H0.out hs2⟩
  | false =>
    have HR : Hid (RE = (if (s.takes L).1 = 0 then addE s.came n else (s.takes L).1) ∧ RS = if (s.takes L).1 = 0 then (if addE s.came n = 0 then { (s.takes L).2 with came := addL s.came n } else s) else s) := Lib.hid ⟨by rw [HH.out.1]; unfold EnS.pktE; rw [if_neg (by rw [hin]; simp)], by rw [HH.out.2]; unfold EnS.pkt; rw [if_neg (by rw [hin]; simp)]⟩
    clear hin
    have HOW := Lib.hid (eown g s p w2 S (H.out.later hs2))
    trace "E"; go_wp2_with fail
    refine HOW.out.mono ?_
    rintro e w3 ⟨gi', gl', rfl, hbx, hbi, hbl, hgi, hgl, hb3⟩
    have hs3 : Since w w3 := hs2.later hb3
    have hb23 : Since w2 w3 := hb3
    have HE3 : Hid (EnW w3 w2.heap.size gi' gl' p.mv p.cv s) := Lib.hid ⟨hbx, hbi, hbl⟩
    have hg2 := hs2.size
    have HO3 := Lib.hid (H.out.own.add3 hs3 hbx hbi hbl hg2 (by omega) (by omega) (HE3.out.ne.1) (HE3.out.ne.2.1) (HE3.out.ne.2.2))
    clear hbx hbi hbl hb3 HOW
    obtain ⟨gx, hgx⟩ : ∃ gx, w2.heap.size = gx := ⟨_, rfl⟩
    rw [hgx] at HE3 HO3 hgi hgl hg2
    rw [hgx]
    have HX2 := Lib.hid hgx
    have hgi2 := hgi
    have hgl2 := hgl
    clear hgx
    trace "F"; go_wp2_with fail
    trace "G"; go_loopw [35] (fun s35 wr => ∃ i : Nat, s35 = .int .i64 i ∧ i ≤ n1 ∧ (s.takes (L.take i)).1 = 0 ∧ EnW wr gx gi' gl' p.mv p.cv (s.takes (L.take i)).2 ∧ Out w3 wr [gx, gi', gl']) (fun s35 _ => n1 - (intOf s35).toNat)
    case atStart => exact ⟨0, rfl, Nat.zero_le _, by rw [List.take_zero]; rfl, by rw [List.take_zero]; exact HE3.out, Out.refl _ _⟩
    case round =>
      obtain ⟨i, rfl, hi, hz0, hew, hou⟩ := hrel
      have hs2r : Since w2 wr := hb23.out' hou (fun k hk => by simp at hk; have := HX2.out; omega)
      have hsr : Since w wr := hs2.later hs2r
      have HFR := Lib.hid (HF2.out.later hs2r)
      have HEW := Lib.hid hew
      have HOU := Lib.hid hou
      have HZ0 := Lib.hid hz0
      have hLl : L.length = n1 := by rw [← HM1.out, List.length_map]; exact hn1
      clear hew hou hz0
      by_cases hlt : i < n1
      case neg =>
        obtain rfl : i = n1 := by omega
        have hlt' : decide ((i : Int) < (i : Int)) = false := by simp
        have d64 : wr.cell? ⟨g, 64, none⟩ = some (.slice Ac s.came.length cc) := by rw [← HCV.out]; exact hsr.cell H.out.bg.lt H.out.c64
        have lxr : g < wr.heap.size := Nat.lt_of_lt_of_le H.out.bg.lt hsr.size
        have hLT : L.take i = L := by rw [← hLl, List.take_length]
        rw [hLT] at HZ0 HEW
        have HR2 : Hid (RE = addE s.came n ∧ RS = if addE s.came n = 0 then { (s.takes L).2 with came := addL s.came n } else s) := Lib.hid ⟨by rw [HR.out.1, if_pos HZ0.out], by rw [HR.out.2, if_pos HZ0.out]⟩
        have hb30 := rngE_ok HCM.out
        have HAD := Lib.hid (radd_any Ac s.came.length cc s.came n wr rfl (fun r hr => by obtain ⟨⟨a1, a2⟩, b1, b2⟩ := hb30 r hr; unfold okI; omega) (HRC.out.later hsr))
        clear hLT hb30
        trace "H"; go_wp2_with fail
        refine HAD.out.mono ?_
        rintro e w5 ⟨A5, c5, rfl, hb5, hl5, hk5⟩
        have hs5 : Since w w5 := hsr.later hb5
        have HL5 := Lib.hid hl5
        have HK5 := Lib.hid hk5
        have HB5 : Hid (Since wr w5) := Lib.hid hb5
        clear hl5 hk5 hb5 HAD d64
        by_cases hA0 : addE s.came n = 0
        case neg =>
          have HH2 : Hid (RE = addE s.came n ∧ RS = s) := Lib.hid ⟨HR2.out.1, by rw [HR2.out.2, if_neg hA0]⟩
          rw [errV_pos hA0]
          have HEP := Lib.hid (errV_pos hA0)
          obtain ⟨ee, hee⟩ : ∃ e, addE s.came n = e := ⟨_, rfl⟩
          rw [hee] at HH2 HEP
          rw [hee]
          clear hA0 hee
          trace "J"; go_wp2_with fail
          go_ret
          rw [HH2.out.1, HH2.out.2, HEP.out]
          exact ⟨rfl, Leaves.same H0.out hs5⟩
        have HH2 : Hid (RE = 0 ∧ RS = { (s.takes L).2 with came := addL s.came n }) := Lib.hid ⟨by rw [HR2.out.1, hA0], by rw [HR2.out.2, if_pos hA0]⟩
        have hok2 : EnOk (s.takes L).2 := H.out.ok.takes HFO.out
        have hmd2 : (s.takes L).2.made = s.made := takes_made _ _
        obtain ⟨s2, hs2e⟩ : ∃ x, (s.takes L).2 = x := ⟨_, rfl⟩
        rw [hs2e] at hok2 hmd2 HEW HH2
        obtain ⟨cn, hcn⟩ : ∃ x, addL s.came n = x := ⟨_, rfl⟩
        have hcok : rngE cn = 0 := by rw [← hcn]; exact (addL_ok HCM.out hA0).1
        rw [hcn] at HL5 HH2
        rw [hcn]
        have HOK2 := Lib.hid hok2
        have HMD2 := Lib.hid hmd2
        have HOKF : Hid (EnOk { s2 with came := cn }) := Lib.hid ⟨hok2.dz, hok2.tl, hok2.my, hok2.md, hok2.kn, hcok, hok2.ml, hok2.tt, hok2.cr, hok2.rt, hok2.mc⟩
        obtain ⟨cvn, hcvn⟩ : ∃ v, Value.slice A5 cn.length c5 = v := ⟨_, rfl⟩
        rw [hcvn] at HL5
        have hone : cvn.oneCell' = true := by rw [← hcvn]; rfl
        have HKV : Hid (∀ k, k ∈ blocks cvn → wr.heap.size ≤ k) := Lib.hid (fun k hk => HK5.out k (by rw [← hcvn] at hk; exact blocks_any A5 _ _ _ _ ▸ hk))
        obtain ⟨Amv, cmv, hmv, -, -, -⟩ := H.out.lm.shape
        -- what lies where
        obtain ⟨parts, hparts⟩ : ∃ x, enParts g s p = x := ⟨_, rfl⟩
        rw [hparts] at HO3
        have HOr : Hid (Own w S wr (parts ++ [Thing.block gx 117 (enCells s2 p.mv p.cv gi' gl').toArray, Thing.block gi' 174 (strCells s2.M s2.t), Thing.block gl' 171 (credCells s2.W s2.L s2.C s2.R)])) := Lib.hid (by
          refine HO3.out.chg HOU.out (fun i => parts.length ≤ i) (fun k hk => ?_) (fun i t hi => ?_)
          · simp at hk
            rcases hk with rfl | rfl | rfl
            · exact ⟨parts.length, _, _, by rw [List.getElem?_append_right (Nat.le_refl _), Nat.sub_self]; rfl, Nat.le_refl _⟩
            · exact ⟨parts.length + 1, _, _, by rw [List.getElem?_append_right (by omega), Nat.add_sub_cancel_left]; rfl, by omega⟩
            · exact ⟨parts.length + 2, _, _, by rw [List.getElem?_append_right (by omega), Nat.add_sub_cancel_left]; rfl, by omega⟩
          · rcases Nat.lt_or_ge i parts.length with h1 | h1
            · left
              rw [List.getElem?_append_left h1] at hi ⊢
              exact ⟨by omega, hi⟩
            · right
              obtain ⟨d, rfl⟩ : ∃ d, i = parts.length + d := ⟨i - parts.length, by omega⟩
              rw [List.getElem?_append_right (by omega), Nat.add_sub_cancel_left] at hi
              rw [List.getElem?_append_right (by omega), Nat.add_sub_cancel_left]
              match d, hi with
              | 0, hi => simp at hi; subst hi; exact ⟨_, _, _, _, rfl, rfl, HEW.out.bx⟩
              | 1, hi => simp at hi; subst hi; exact ⟨_, _, _, _, rfl, rfl, HEW.out.bi⟩
              | 2, hi => simp at hi; subst hi; exact ⟨_, _, _, _, rfl, rfl, HEW.out.bl⟩
              | d + 3, hi => simp at hi)
        have HO5 := Lib.hid (HOr.out.add HB5.out (S := blocks cvn) (t := Thing.lst 96 2 cvn (cn.map rngRow)) ⟨HL5.out, rfl⟩ HKV.out)
        have hbx5 := HEW.out.bx.later HB5.out
        have x64 : w5.cell? ⟨gx, 64, none⟩ = some p.cv := (hbx5.cell 64).trans (enCells_tail _ _ _ _ hok2.tl 3)
        have fx := hbx5.free
        have lx := hbx5.lt
        have hbg5 := H.out.bg.later hs5
        have lg5 := hbg5.lt
        have hgx : g ≠ gx := by have := H.out.bg.lt; omega
        have HBX6 : Hid (BlockIs (w5.setCell ⟨gx, 64, none⟩ cvn) gx 117 (enCells s2 p.mv cvn gi' gl').toArray) := Lib.hid (by
          have h1 := hbx5.put 64 cvn
          rw [enCells_64 _ _ _ _ hok2.tl] at h1
          exact h1)
        have HBG6 : Hid (BlockIs (w5.setCell ⟨gx, 64, none⟩ cvn) g 117 (enCells s p.mv p.cv p.gi p.gl).toArray) := Lib.hid (hbg5.far hgx _)
        obtain ⟨cs, hcs⟩ : ∃ cs, enCells s2 p.mv cvn gi' gl' = cs := ⟨_, rfl⟩
        have hlen : cs.length = 67 := by rw [← hcs]; exact enCells_len _ _ _ _ hok2.tl
        have hlen0 : (enCells s p.mv p.cv p.gi p.gl).length = 67 := enCells_len _ _ _ _ H.out.ok.tl
        have HO9 : Hid (∀ v ∈ cs, v.oneCell' = true) := Lib.hid (by rw [← hcs]; exact enCells_one s2 (by rw [hmv]; rfl) hone gi' gl')
        have HR6 : Hid ((w5.setCell ⟨gx, 64, none⟩ cvn).rangeAt gx 0 cs) := Lib.hid (by rw [← hcs]; have := HBX6.out.range; simpa using this)
        have HI6 : Hid ((Tryz.prog.info? 117).map (·.size) = some cs.length) := Lib.hid (by rw [hlen]; kernel_rfl)
        have HT6 : Hid ((w5.setCell ⟨gx, 64, none⟩ cvn).there g 0 cs.toArray.size) := Lib.hid (by
          have h1 := HBG6.out.there
          rw [List.size_toArray, hlen0] at h1
          rw [List.size_toArray, hlen]; exact h1)
        have HL9 : Hid (cs.length = (enCells s p.mv p.cv p.gi p.gl).toArray.size) := Lib.hid (by rw [List.size_toArray, hlen, hlen0])
        have HCS := Lib.hid hcs
        have HPT := Lib.hid hparts
        rw [hA0, errV_zero]
        subst hcvn
        clear hA0 hok2 hmd2 hs2e hcn hcok hone hmv hparts hbx5 hbg5 hlen hlen0 hcs
        trace "K"; go_wp2_with (first | (refine wpList_load_mid rfl 117 (.tmp 65) rfl gx 0 (by go_simp) cs _ HR6.out Tryz.underlying117 rfl HI6.out ?_) | (refine wpList_store_mid rfl 117 (.tmp 67) (.tmp 66) rfl g 0 cs.toArray (by go_simp) (by go_simp) HT6.out (by rw [HI6.out, List.size_toArray]) (all_oneCell_toArray HO9.out) ?_))
        go_ret
        rw [HH2.out.1, HH2.out.2, errV_zero]
        refine ⟨rfl, endT_close (p := ⟨gi', gl', p.mv, .slice A5 cn.length c5, p.vs⟩) HOKF.out (by show p.vs.length = s2.made.length; rw [HMD2.out]; exact H.out.len) ?_⟩
        have hN : parts.length = 5 + (inner p.vs s.made).length := by rw [← HPT.out]; unfold enParts; simp; omega
        have hi0 : (parts ++ [Thing.block gx 117 (enCells s2 p.mv p.cv gi' gl').toArray, Thing.block gi' 174 (strCells s2.M s2.t), Thing.block gl' 171 (credCells s2.W s2.L s2.C s2.R)] ++ [Thing.lst 96 2 (.slice A5 cn.length c5) (cn.map rngRow)])[parts.length]? = some (Thing.block gx 117 (enCells s2 p.mv p.cv gi' gl').toArray) := by
          rw [List.append_assoc, List.getElem?_append_right (Nat.le_refl _), Nat.sub_self]; rfl
        have o6 := HO5.out.put parts.length hi0 64 (.slice A5 cn.length c5)
        obtain ⟨L6, hL6⟩ : ∃ L6, (parts ++ [Thing.block gx 117 (enCells s2 p.mv p.cv gi' gl').toArray, Thing.block gi' 174 (strCells s2.M s2.t), Thing.block gl' 171 (credCells s2.W s2.L s2.C s2.R)] ++ [Thing.lst 96 2 (.slice A5 cn.length c5) (cn.map rngRow)]).set parts.length (Thing.block gx 117 ((enCells s2 p.mv p.cv gi' gl').toArray.setIfInBounds 64 (.slice A5 cn.length c5))) = L6 := ⟨_, rfl⟩
        rw [hL6] at o6
        have hg6 : L6[0]? = some (Thing.block g 117 (enCells s p.mv p.cv p.gi p.gl).toArray) := by
          rw [← hL6, List.getElem?_set_ne (by omega), ← HPT.out]; rfl
        have o7 := o6.chg1 (cs' := cs.toArray) 0 hg6 (HBG6.out.puts HL9.out) ((Out.refl _ _).setCells (Or.inl (by simp)) cs 0)
        refine Own.pickf o7 (fun i => if i = 1 then parts.length + 1 else if i = 2 then parts.length + 2 else if i = 4 then parts.length + 3 else i) (fun i => if i = parts.length + 1 then 1 else if i = parts.length + 2 then 2 else if i = parts.length + 3 then 4 else i) (fun i hi => ?_) (fun i t hi => ?_)
        · have hlen9 : (enParts g { s2 with came := cn } ⟨gi', gl', p.mv, .slice A5 cn.length c5, p.vs⟩).length = parts.length := by
            rw [hN]; unfold enParts; simp only [List.length_cons, HMD2.out]; omega
          rw [hlen9] at hi
          by_cases a1 : i = 1
          · subst a1; simp
          · by_cases a2 : i = 2
            · subst a2; simp
            · by_cases a4 : i = 4
              · subst a4; simp
              · rw [if_neg a1, if_neg a2, if_neg a4, if_neg (by omega), if_neg (by omega), if_neg (by omega)]
        · have hbk : ∀ d, L6[parts.length + 1 + d]? = ([Thing.block gi' 174 (strCells s2.M s2.t), Thing.block gl' 171 (credCells s2.W s2.L s2.C s2.R), Thing.lst 96 2 (.slice A5 cn.length c5) (cn.map rngRow)])[d]? := fun d => by
            rw [← hL6, List.getElem?_set_ne (by omega), List.append_assoc, List.getElem?_append_right (by omega), show parts.length + 1 + d - parts.length = d + 1 by omega]
            rfl
          have hfr : ∀ d, d < parts.length → L6[d]? = parts[d]? := fun d hd => by
            rw [← hL6, List.getElem?_set_ne (by omega), List.append_assoc, List.getElem?_append_left hd]
          match i, hi with
          | 0, hi =>
            have h0 : 0 < L6.length := (List.getElem?_eq_some_iff.1 hg6).1
            show (L6.set 0 _)[0]? = some t
            rw [List.getElem?_set_self h0, ← HCS.out]
            exact hi
          | 1, hi =>
            show (L6.set 0 _)[parts.length + 1]? = some t
            rw [List.getElem?_set_ne (by omega)]
            exact (hbk 0).trans hi
          | 2, hi =>
            show (L6.set 0 _)[parts.length + 2]? = some t
            rw [List.getElem?_set_ne (by omega)]
            exact (hbk 1).trans hi
          | 3, hi =>
            show (L6.set 0 _)[3]? = some t
            rw [List.getElem?_set_ne (by omega), hfr 3 (by omega), ← HPT.out]
            exact hi
          | 4, hi =>
            show (L6.set 0 _)[parts.length + 3]? = some t
            rw [List.getElem?_set_ne (by omega)]
            exact (hbk 2).trans hi
          | d + 5, hi =>
            have hfe : (if d + 5 = 1 then parts.length + 1 else if d + 5 = 2 then parts.length + 2 else if d + 5 = 4 then parts.length + 3 else d + 5) = d + 5 := by rw [if_neg (by omega), if_neg (by omega), if_neg (by omega)]
            have hi' : (inner p.vs s.made)[d]? = some t := by rw [← HMD2.out]; exact hi
            have hd := (List.getElem?_eq_some_iff.1 hi').1
            show (L6.set 0 _)[if d + 5 = 1 then parts.length + 1 else if d + 5 = 2 then parts.length + 2 else if d + 5 = 4 then parts.length + 3 else d + 5]? = some t
            rw [hfe, List.getElem?_set_ne (by omega), hfr (d + 5) (by omega), ← HPT.out]
            exact hi'
      obtain ⟨bf, off, hA, hltb, hcf⟩ := HFR.out.agg_at hn1 hlt
      subst hA
      obtain ⟨f0, f1, f2⟩ := hcf wr (Since.refl wr)
      have hfin := HFR.out.each _ (List.getElem_mem (show i < Ms.length by omega))
      have hiL : i < L.length := by omega
      have hLi : L[i] = Ms[i].f := by
        have h1 : (Ms.map (·.f))[i]? = some Ms[i].f := by rw [List.getElem?_map, List.getElem?_eq_getElem]; rfl
        rw [HM1.out, List.getElem?_eq_getElem hiL] at h1
        exact Option.some.inj h1
      have hfr : frmE Ms[i].f = 0 := by rw [← hLi]; exact HFO.out _ (List.getElem_mem hiL)
      have HTS := Lib.hid (takes_succ hiL HZ0.out)
      rw [hLi] at HTS
      obtain ⟨q, hq⟩ : ∃ q, Ms[i] = q := ⟨_, rfl⟩
      rw [hq] at f0 f1 f2 hfin hfr HTS
      obtain ⟨si, hsi⟩ : ∃ x, (s.takes (L.take i)).2 = x := ⟨_, rfl⟩
      have hok : EnOk si := by rw [← hsi]; exact H.out.ok.takes (fun f hf => HFO.out f (List.mem_of_mem_take hf))
      have hmd : si.made = s.made := by rw [← hsi]; exact takes_made _ _
      rw [hsi] at HEW HTS
      have HT1 := Lib.hid (fun (X : World) (hX : Since wr X) => etake1 gx gi' gl' p.mv p.cv p.vs si q X (HEW.out.later hX) hok (by rw [hmd]; exact H.out.made.later (hsr.later hX)) (by rw [hmd]; exact h1000) (hfin.later hX) hfr)
      have hlt' : (i : Int) < (n1 : Int) := by omega
      clear hfin hfr hq hok hmd hLi hiL hcf hsi
      obtain ⟨⟨fk, fn, fd⟩, fA, fc⟩ := q
      dsimp only at f0 f1 f2 HT1 HTS
      trace "I"; go_wp2_with fail
      refine (HT1.out _ (by refine Since.out ?_; repeat (first | with_reducible assumption | with_reducible exact Since.refl _ | with_reducible refine Since.later ?_ (by with_reducible assumption) | with_reducible refine Since.only ?_ (by with_reducible assumption) (by first | assumption | omega | (simp; done) | (simp; omega)) | with_reducible refine Since.alloc ?_ _ | with_reducible refine Since.drewN ?_ _ | with_reducible refine Since.drew ?_ | with_reducible refine Since.set ?_ (by first | assumption | omega | (simp; done) | (simp; omega)) _))).mono ?_
      rintro e w5 ⟨rfl, hew5, hou5⟩
      have HEW5 := Lib.hid hew5
      have HOU5 := Lib.hid ((HOU.out.alloc _).trans hou5)
      have hs25 : Since w2 w5 := hb23.out' HOU5.out (fun k hk => by simp at hk; have := HX2.out; omega)
      have hs5 : Since w w5 := hs2.later hs25
      clear hew5 hou5
      by_cases hE5 : si.take1E ⟨fk, fn, fd⟩ = 0
      case neg =>
        have HH2 : Hid (RE = si.take1E ⟨fk, fn, fd⟩ ∧ RS = s) := Lib.hid (by
          have h1 : (s.takes L).1 = si.take1E ⟨fk, fn, fd⟩ := by rw [takes_stop (i := i + 1) (by rw [HTS.out]; exact hE5), HTS.out]
          rw [HR.out.1, HR.out.2, h1, if_neg hE5, if_neg hE5]
          exact ⟨rfl, rfl⟩)
        rw [errV_pos hE5]
        have HEP := Lib.hid (errV_pos hE5)
        obtain ⟨ee, hee⟩ : ∃ e, si.take1E ⟨fk, fn, fd⟩ = e := ⟨_, rfl⟩
        rw [hee] at HH2 HEP
        rw [hee]
        clear hE5 hee
        trace "L"; go_wp2_with fail
        go_ret
        rw [HH2.out.1, HH2.out.2, HEP.out]
        exact ⟨rfl, Leaves.same H0.out hs5⟩
      have HTS2 : Hid ((s.takes (L.take (i + 1))).1 = 0 ∧ (s.takes (L.take (i + 1))).2 = si.take1 ⟨fk, fn, fd⟩) := Lib.hid (by rw [HTS.out]; exact ⟨hE5, rfl⟩)
      rw [hE5, errV_zero]
      clear hE5
      trace "M"; go_wp2_with fail
      go_roundw
      case rel => exact ⟨i + 1, by go_num, by omega, HTS2.out.1, by rw [HTS2.out.2]; exact HEW5.out, HOU5.out⟩
      case measure => simp [intOf]; omega
end Go.Proofs.YtaindcicloapfaaGreatDoor

/-! Plain words on two ends that talk over a link that is good: each exchange one byte more comes, if there is one. No program here. -/
namespace Go.Proofs.YtaindcicloapfaaGreatDoor
open Go.ChangeShapes Go.WideShapes Go.ChangeAt Go.RowKit
set_option linter.unusedVariables false

theorem readyF_end {M : Plc} : ∀ {f t : Nat}, readyF M f t < f → (M.at (t + readyF M f t)).isSome = false
  | 0, t, h => by omega
  | f + 1, t, h => by
    rw [readyF] at h ⊢
    by_cases h0 : (M.at t).isSome = true
    · rw [if_pos h0] at h ⊢
      have := readyF_end (M := M) (f := f) (t := t + 1) (by omega)
      rw [show t + (readyF M f (t + 1) + 1) = t + 1 + readyF M f (t + 1) by omega]; exact this
    · rw [if_neg h0]
      simpa using h0
theorem ready_end {M : Plc} {t : Nat} (ht : t ≤ 60) : (M.at (t + readyN M t)).isSome = false ∨ t + readyN M t = 60 := by
  have := readyN_le M t ht
  by_cases h : readyN M t < 60 - t
  · left; exact readyF_end h
  · right; omega
/-- all that came in order was read -/
def Done (y : EnS) : Prop := (y.M.at y.t).isSome = false ∨ y.t = 60
theorem take_all (M : Plc) {t : Nat} (ht : t ≤ 60) : takeK M t 60 = readyN M t := by
  have := readyN_le M t ht
  unfold takeK
  omega
theorem done_read {y : EnS} (h : EnOk y) : Done (y.read 60) ∧ (y.read 60).t = y.t + readyN y.M y.t := by
  have e : (y.read 60).t = y.t + readyN y.M y.t := by
    unfold EnS.read
    rw [if_neg (by decide)]
    show y.t + takeK y.M y.t 60 = _
    rw [take_all _ h.tt]
  refine ⟨?_, e⟩
  have eM : (y.read 60).M = y.M := by unfold EnS.read; rw [if_neg (by decide)]
  unfold Done
  rw [e, eM]
  exact ready_end h.tt
/-- x knows all that y can tell -/
def Fr (x y : EnS) : Prop := (∀ j, (y.M.at j).isSome = true → tat x.told j = true) ∧ x.may = y.L
theorem new_num {x y : EnS} (h : Hf x y) : inB y.came (x.made.length : Int) = false := by
  cases hi : inB y.came (x.made.length : Int) with
  | false => rfl
  | true =>
    obtain ⟨m, ps, e, hm, _⟩ := h.cm _ hi
    have := (List.getElem?_eq_some_iff.1 hm).1
    omega
theorem pcsR_from {T : List Bool} {last : Nat} {data : ByteArray} {k t : Nat} (h : ∀ j, j < t → tat T j = true) : ∀ d a, a + d = t → pcsR T last data a k = pcsR T last data t k
  | 0, a, e => by rw [show a = t by omega]
  | d + 1, a, e => by
    have h0 := h a (by omega)
    rw [pcsR_skip, pcsR_from h d (a + 1) (by omega)]
    rw [strN, if_neg (by rw [h0]; simp)]
theorem first_piece {x y : EnS} (h : Pair x y) (fr : Fr x y) (hd : (y.M.at y.t).isSome = false) (hl : y.t < x.data.size) : ∃ p ∈ x.pieces, p.has y.t = true := by
  have ht : ∀ j, j < y.t → tat x.told j = true := fun j hj => fr.1 j (h.xy.tk j hj)
  have hn : tat x.told y.t = false := by
    cases hb : tat x.told y.t with
    | false => rfl
    | true => have := h.xy.tl _ hb; rw [hd] at this; cases this
  obtain ⟨w1, w2, r1, k1, k2, l1, l2, lo, hi⟩ := h.oy.cr
  have hrt := h.oy.rt
  have hla : y.t < x.last := by
    have := fr.2
    unfold EnS.last
    omega
  have hs : strN x.told x.last 20 y.t ≠ 0 := by
    rw [strN, if_pos ⟨hla, hn⟩]; omega
  have e : x.pieces = ⟨y.t, x.data.extract y.t (y.t + strN x.told x.last 20 y.t)⟩ :: pcsR x.told x.last x.data (y.t + strN x.told x.last 20 y.t) 2 := by
    unfold EnS.pieces
    rw [pcsR_from ht y.t 0 (by omega), pcsR_take hla (by decide) hs]
  refine ⟨_, by rw [e]; exact List.mem_cons_self .., ?_⟩
  have hsz := strN_le x.told x.last 20 y.t
  have hL := h.ox.last
  have hz : (x.data.extract y.t (y.t + strN x.told x.last 20 y.t)).size = strN x.told x.last 20 y.t := by
    rw [ByteArray.size_extract]; omega
  unfold Pc.has
  simp only [decide_eq_true_iff]
  rw [hz]
  omega
theorem has_iff {p : Pc} {j : Nat} : p.has j = true ↔ p.at_ ≤ j ∧ j < p.at_ + p.d.size := by unfold Pc.has; simp
/-- x's packet comes to y at once, and is taken -/
theorem send_take {x y : EnS} (h : Pair x y) (hm : x.made.length ≤ 1000000) (he : y.takeE x.packet ≠ 4) :
    y.takeE x.packet = 0 ∧ ∃ C' M', y.take x.packet = y.got x.made.length x.came x.L C' M' ∧ Pair x.make (y.take x.packet) ∧ Fr (y.take x.packet) x.make ∧
      (∀ j, (M'.at j).isSome = (x.pieces.any (fun p => p.has j) || (y.M.at j).isSome)) := by
  have f := Fly.made h.ox hm
  have hp := h.make
  rcases take_fly hp.ox hp.oy hp.xy hp.yx f (by show (x.made ++ [x.pieces]).length ≤ _; simp) hm with ⟨a, _⟩ | ⟨_, _, a, _⟩ | ⟨_, ha, a, C', M', c, r2, r3⟩
  · rw [new_num h.xy] at a; cases a
  · exact absurd a he
  · refine ⟨a, C', M', c, ?_, ?_, r3⟩
    · exact (hp.take f (by show (x.made ++ [x.pieces]).length ≤ _; simp) hm).1
    · rw [c]
      obtain ⟨e1, e2, e3, e4, e5, e6, e7, e8, e9⟩ := got_fields y x.made.length x.came x.L C' M'
      refine ⟨fun j hj => ?_, ?_⟩
      · rw [e9, got_told hp.oy hp.yx h.ox.cm (fun i hi => hi)]
        right
        obtain ⟨m, ps, p, q1, q2, q3, q4⟩ := h.yx.cv j hj
        exact ⟨m, ps, p, q1, q2, q3, q4⟩
      · rw [e7]
        show max y.may x.L = x.L
        have := h.yx.my
        omega
/-- who hears, and reads all: so it is behind an exchange -/
noncomputable def EnS.hear (y x : EnS) : EnS := (y.take x.packet).read 60
theorem read_rest {y : EnS} (n : Int) : (y.read n).M = y.M ∧ (y.read n).told = y.told ∧ (y.read n).may = y.may ∧ (y.read n).data = y.data ∧ (y.read n).made = y.made ∧ (y.read n).came = y.came := by
  unfold EnS.read; split <;> simp
theorem exchange {x y : EnS} (h : Pair x y) (hm : x.made.length ≤ 1000000) (he : y.takeE x.packet ≠ 4) :
    Pair (y.hear x) x.make ∧ Fr (y.hear x) x.make ∧ Done (y.hear x) ∧ (y.hear x).data = y.data ∧ (y.hear x).made = y.made ∧ y.t ≤ (y.hear x).t ∧ (Fr x y → Done y → ∀ k, min x.data.size k ≤ y.t → min x.data.size (k + 1) ≤ (y.hear x).t) := by
  obtain ⟨e0, C', M', c, hp, hf, hM⟩ := send_take h hm he
  obtain ⟨f1, f2, f3, f4, f5, f6, f7, f8, f9⟩ := got_fields y x.made.length x.came x.L C' M'
  unfold EnS.hear
  obtain ⟨d1, d2⟩ := done_read hp.oy
  obtain ⟨r1, r2, r3, r4, r5, r6⟩ := read_rest (y := y.take x.packet) 60
  have hpr := (hp.symm.read 60)
  refine ⟨hpr, ⟨fun j hj => by rw [r2]; exact hf.1 j hj, by rw [r3]; exact hf.2⟩, d1, by rw [r4, c, f1], by rw [r5, c, f2], by rw [d2, c, f4]; omega, fun fr dn k hk => ?_⟩
  rw [d2, c, f4, f5]
  by_cases hd : (y.M.at y.t).isSome = false
  · by_cases hl : y.t < x.data.size
    · obtain ⟨p, hp1, hp2⟩ := first_piece h fr hd hl
      have hs : (M'.at y.t).isSome = true := by
        rw [hM, List.any_eq_true.2 ⟨p, hp1, hp2⟩]; rfl
      have hr : 1 ≤ readyN M' y.t := by
        have h60 := h.ox.dz
        unfold readyN
        rw [show 60 - y.t = (60 - y.t - 1) + 1 by omega, readyF, if_pos hs]
        omega
      omega
    · omega
  · have := h.ox.dz
    rcases dn with dn | dn
    · exact absurd dn hd
    · omega
/-- what was read in order -/
theorem read_text {x y : EnS} (h : Pair x y) (n : Int) : y.t ≤ x.data.size ∧ x.data.extract 0 y.t ++ y.readS n = x.data.extract 0 (y.read n).t := by
  have hl : x.data.data.toList.length = x.data.size := Array.length_toList
  have ht : y.t ≤ x.data.size := by
    rcases Nat.eq_zero_or_pos y.t with h0 | h0
    · omega
    · obtain ⟨c, hc⟩ := Option.isSome_iff_exists.1 (h.xy.tk (y.t - 1) (by omega))
      have := (h.xy.of_ _ _ hc).1
      omega
  refine ⟨ht, ?_⟩
  unfold EnS.readS EnS.read
  by_cases hn : n < 0
  · rw [if_pos hn, if_pos hn]
    have : (⟨#[]⟩ : ByteArray) = ByteArray.empty := rfl
    rw [this, ByteArray.append_empty]
  · rw [if_neg hn, if_neg hn]
    exact (of_take h.xy.of_ ht n).2
theorem read_error (n : Int) : EnS.readE n = 0 ↔ 0 ≤ n := by unfold EnS.readE; split <;> omega
/-- so it stands when so many exchanges went well, a to send -/
structure Going (i : Nat) (a b : EnS) (ka kb : Nat) : Prop where
  pr : Pair a b
  fr : 1 ≤ i → Fr a b ∧ Done a
  dn : 2 ≤ i → Done b
  ta : min b.data.size ka ≤ a.t
  tb : min a.data.size kb ≤ b.t
theorem Going.start {a b : EnS} (h : Pair a b) : Going 0 a b 0 0 := ⟨h, fun h => by omega, fun h => by omega, by omega, by omega⟩
theorem Going.next {i : Nat} {a b : EnS} {ka kb : Nat} (h : Going i a b ka kb) (hm : a.made.length ≤ 1000000) (he : b.takeE a.packet ≠ 4) : Going (i + 1) (b.hear a) a.make (if 2 ≤ i then kb + 1 else kb) ka := by
  obtain ⟨p, f, d, e1, e2, e3, e4⟩ := exchange h.pr hm he
  refine ⟨p, fun _ => ⟨f, d⟩, fun hi => (h.fr (by omega)).2, ?_, by show min (b.hear a).data.size ka ≤ a.t; rw [e1]; exact h.ta⟩
  show min a.data.size _ ≤ _
  by_cases hi : 2 ≤ i
  · rw [if_pos hi]
    exact e4 (h.fr (by omega)).1 (h.dn hi) kb h.tb
  · rw [if_neg hi]
    exact Nat.le_trans h.tb e3
end Go.Proofs.YtaindcicloapfaaGreatDoor

/-! Plain words on two ends of which one alone writes: what comes is a beginning, a window longer with each packet that tells what is new; and of how many ranges what came is. No program here. -/
namespace Go.Proofs.YtaindcicloapfaaGreatDoor
open Go.ChangeShapes Go.WideShapes Go.ChangeAt Go.RowKit
set_option linter.unusedVariables false

/-- the number behind the greatest makes no new range -/
theorem addL_next {r : Rng} {L : List Rng} {n : Int} (h : rngE (r :: L) = 0) (hn : n = r.hi + 1) (hm : MayBe n) : addE (r :: L) n = 0 ∧ addL (r :: L) n = ⟨r.lo, n⟩ :: L := by
  have hc := rngE_canon h
  have hw := withL_ok (x := ⟨n, n⟩) hc (Int.le_refl n)
  have hc2 : Canon (⟨r.lo, n⟩ :: L) := by
    refine ⟨fun o ho => ?_, ?_⟩
    · rcases List.mem_cons.1 ho with rfl | ho
      · have := hc.ok r (List.mem_cons_self ..)
        show r.lo ≤ n; omega
      · exact hc.ok o (List.mem_cons_of_mem _ ho)
    · have hg := hc.apart
      rw [List.pairwise_cons] at hg ⊢
      exact hg
  have e : withL (r :: L) ⟨n, n⟩ = ⟨r.lo, n⟩ :: L := by
    refine canon_eq hw.1 hc2 (fun y => ?_)
    rw [hw.2, inB_cons, inB_cons]
    have hr := hc.ok r (List.mem_cons_self ..)
    have : (rin r y || rin ⟨n, n⟩ y) = rin ⟨r.lo, n⟩ y := by
      unfold rin
      rw [Bool.eq_iff_iff]
      simp only [Bool.or_eq_true, Bool.and_eq_true, decide_eq_true_iff]
      omega
    rw [← this]
    cases rin r y <;> cases inB L y <;> cases rin ⟨n, n⟩ y <;> rfl
  have hl := rngE_len h
  have e0 : addE (r :: L) n = 0 := by
    unfold addE
    rw [if_pos h, if_pos (mayB_iff.2 hm), e, if_neg (by simp at hl ⊢; omega)]
  exact ⟨e0, by unfold addL; rw [if_pos e0, e]⟩
theorem addE_room {L : List Rng} {n : Int} (h : rngE L = 0) (hm : MayBe n) (hl : L.length ≤ 11) : addE L n = 0 := by
  unfold addE
  have := withL_len L ⟨n, n⟩
  rw [if_pos h, if_pos (mayB_iff.2 hm), if_neg (by omega)]
/-- so many were lost, so many ranges there are -/
structure Gaps (c : List Rng) (made lost : Nat) : Prop where
  few : c.length ≤ lost ∨ (c.length ≤ lost + 1 ∧ c ≠ [] ∧ (rat c 0).hi + 1 = made)
theorem Gaps.new : Gaps [] 0 0 := ⟨Or.inl (Nat.le_refl _)⟩
theorem Gaps.lose {c : List Rng} {made lost : Nat} (h : Gaps c made lost) : Gaps c (made + 1) (lost + 1) := by
  refine ⟨Or.inl ?_⟩
  rcases h.few with h | h
  · omega
  · exact h.1
theorem Gaps.fits {c : List Rng} {made lost : Nat} (h : Gaps c made lost) (hc : rngE c = 0) (hm : made ≤ 1000000) (hl : lost ≤ 11) : addE c made = 0 := by
  have hmn : MayBe (made : Int) := ⟨by omega, by omega⟩
  rcases h.few with h | ⟨h1, h2, h3⟩
  · exact addE_room hc hmn (by omega)
  · cases c with
    | nil => exact absurd rfl h2
    | cons r L => exact (addL_next hc h3.symm hmn).1
theorem Gaps.come {c : List Rng} {made lost : Nat} (h : Gaps c made lost) (hc : rngE c = 0) (ha : addE c made = 0) (hb : ∀ n, inB c n = true → n < made) : Gaps (addL c made) (made + 1) lost := by
  have hin := addL_in hc ha
  have hok := addL_ok hc ha
  have h0 : inB (addL c made) made = true := by rw [hin]; simp
  have hne : addL c made ≠ [] := rng_nil hok.1 h0
  have hmn := hok.2.2
  have hcar : ((made : Nat) : Int) ≤ (rat (addL c made) 0).hi := came_top hok.1 h0
  have htop := came_top_in hok.1 hne
  rw [hin] at htop
  have hle : (rat (addL c made) 0).hi ≤ made := by
    rcases Bool.or_eq_true _ _ ▸ htop with h1 | h1
    · have := hb _ h1; omega
    · have := of_decide_eq_true h1; omega
  refine ⟨Or.inr ⟨?_, hne, by omega⟩⟩
  rcases h.few with h | ⟨h1, h2, h3⟩
  · rw [hok.2.1]
    have := withL_len c ⟨(made : Int), made⟩
    omega
  · cases c with
    | nil => exact absurd rfl h2
    | cons r L =>
      rw [(addL_next hc h3.symm hmn).2]
      exact h1
theorem came_lt {x y : EnS} (h : Hf x y) : ∀ n, inB y.came n = true → n < (x.made.length : Int) := by
  intro n hn
  obtain ⟨m, ps, e, hm, _⟩ := h.cm n hn
  have := (List.getElem?_eq_some_iff.1 hm).1
  omega
/-- the places below m, and no others -/
theorem any_rest {T : List Bool} {last a : Nat} {data : ByteArray} (hl : last ≤ data.size) (hT : ∀ j, a ≤ j → tat T j = false) : ∀ k, last - a ≤ 20 * k → ∀ j, (pcsR T last data a k).any (fun p => p.has j) = decide (a ≤ j ∧ j < last)
  | 0, h, j => by
    rw [pcsR_none (by omega)]
    symm
    simp
    omega
  | k + 1, h, j => by
    by_cases h0 : a < last
    · have hs := strN_le T last 20 a
      have hs2 : strN T last 20 a = min 20 (last - a) := by
        refine strN_eq (by omega) (fun i hi => ⟨by omega, hT _ (by omega)⟩) ?_
        by_cases hq : last - a ≤ 20
        · right; omega
        · left; omega
      rw [pcsR_take h0 (by omega) (by omega), List.any_cons]
      have hz : (data.extract a (a + strN T last 20 a)).size = strN T last 20 a := by rw [ByteArray.size_extract]; omega
      have h1 : (⟨a, data.extract a (a + strN T last 20 a)⟩ : Pc).has j = decide (a ≤ j ∧ j < a + strN T last 20 a) := by
        unfold Pc.has; rw [hz]
      have ih := any_rest (T := T) (last := last) (a := a + strN T last 20 a) (data := data) hl (fun i hi => hT i (by omega)) k (by omega) j
      rw [h1, show k + 1 - 1 = k by omega, ih, ← Bool.decide_or]
      apply decide_eq_decide.2
      omega
    · rw [pcsR_none (by omega)]
      symm
      simp
      omega
/-- one alone writes: x tells y; m bytes came, x knows of a -/
structure Lo (x y : EnS) (a m : Nat) : Prop where
  pr : Pair x y
  em : y.data.size = 0
  td : ∀ j, tat x.told j = decide (j < a)
  am : a ≤ m
  mm : ∀ j, (y.M.at j).isSome = decide (j < m)
  tm : y.t = m
  ml : m ≤ x.data.size
  li : m = x.data.size ∨ y.L = m + y.W
  my : x.may ≤ m ∨ m = x.data.size ∨ (a = m ∧ x.may = y.L)
/-- what y is when x's packet came, and was read -/
theorem Lo.hear {x y : EnS} {a m : Nat} (h : Lo x y a m) (hm : x.made.length ≤ 1000000) (he : y.takeE x.packet ≠ 4) :
    ∃ m', Lo x.make (y.hear x) a m' ∧ m ≤ m' ∧ (a = m → x.may = y.L → min x.data.size (m + y.W.toNat) ≤ m') ∧ (y.hear x).made = y.made ∧ (y.hear x).W = y.W ∧ (y.hear x).came = addL y.came x.made.length ∧ addE y.came x.made.length = 0 := by
  obtain ⟨e0, C', M', c, hp, hf, hM⟩ := send_take h.pr hm he
  obtain ⟨pe, -, -, q4, q5, q6, q7⟩ := exchange h.pr hm he
  obtain ⟨f1, f2, f3, f4, f5, f6, f7, f8, f9⟩ := got_fields y x.made.length x.came x.L C' M'
  have fW : (y.got x.made.length x.came x.L C' M').W = y.W ∧ (y.got x.made.length x.came x.L C' M').R = y.R := by
    unfold EnS.got EnS.acked; split <;> exact ⟨rfl, rfl⟩
  have hlast := h.pr.ox.last
  have hT : ∀ j, a ≤ j → tat x.told j = false := fun j hj => by rw [h.td]; simp; omega
  have hT1 : ∀ j, j < a → tat x.told j = true := fun j hj => by rw [h.td]; simp; omega
  have hany : ∀ j, x.pieces.any (fun p => p.has j) = decide (a ≤ j ∧ j < x.last) := fun j => by
    unfold EnS.pieces
    rw [pcsR_from hT1 a 0 (by omega)]
    exact any_rest hlast.1 hT 3 (by omega) j
  have ham := h.am
  have hM2 : ∀ j, (M'.at j).isSome = decide (j < max m x.last) := fun j => by
    rw [hM, hany, h.mm, ← Bool.decide_or]
    apply decide_eq_decide.2
    omega
  have hml := h.ml
  have hdz := h.pr.ox.dz
  have hk : readyN M' m = max m x.last - m := by
    refine readyN_eq (fun j hj => by rw [hM2]; simp; omega) (by omega) (Or.inl ?_)
    rw [hM2]; simp; omega
  obtain ⟨d1, d2⟩ := done_read hp.oy
  have hrt := h.pr.oy.rt
  have htm := h.tm
  have ht' : (y.hear x).t = max m x.last := by
    unfold EnS.hear
    rw [d2, c, f4, f5, htm, hk]; omega
  have hcr := h.pr.oy.cr
  have hL' : (y.hear x).L = limitN y.W y.L y.R (readyN M' m : Nat) := by
    unfold EnS.hear EnS.read
    rw [if_neg (by decide)]
    show limitN (y.take x.packet).W (y.take x.packet).L (y.take x.packet).R (takeK (y.take x.packet).M (y.take x.packet).t 60 : Nat) = _
    rw [c, f3, f4, f5, fW.1, fW.2, htm, take_all _ (by omega)]
  obtain ⟨r1, r2, r3, r4, r5, r6⟩ := read_rest (y := y.take x.packet) 60
  have hW' : (y.hear x).W = y.W := by
    unfold EnS.hear EnS.read
    rw [if_neg (by decide)]
    show (y.take x.packet).W = _
    rw [c, fW.1]
  have hadd : addE y.came x.made.length = 0 ∧ (y.hear x).came = addL y.came x.made.length := by
    have hc : (y.hear x).came = addL y.came x.made.length := by unfold EnS.hear; rw [r6, c, f6]
    refine ⟨?_, hc⟩
    have hmn : MayBe ((x.made.length : Nat) : Int) := ⟨by omega, by omega⟩
    rcases addE_or h.pr.oy.cm hmn with h4 | h4
    · exact h4
    · have hn : addL y.came x.made.length = [] := by unfold addL; rw [if_neg (by omega)]
      have f := Fly.made h.pr.ox hm
      have hp2 := h.pr.make
      rcases take_fly hp2.ox hp2.oy hp2.xy hp2.yx f (by show (x.made ++ [x.pieces]).length ≤ _; simp) hm with ⟨a, _⟩ | ⟨_, _, a, _⟩ | ⟨_, ha, _⟩
      · rw [new_num h.pr.xy] at a; cases a
      · exact absurd a he
      · exact ha
  have hmx : (m' : Nat) → m' = max m x.last → (m' = x.data.size ∨ (y.hear x).L = m' + (y.hear x).W) ∧ (x.may ≤ m' ∨ m' = x.data.size) := by
    rintro m' rfl
    by_cases hfull : max m x.last = x.data.size
    · exact ⟨Or.inl hfull, Or.inr hfull⟩
    · have hyL : y.L = m + y.W := by
        rcases h.li with h1 | h1
        · omega
        · exact h1
      obtain ⟨w1, w2, r1, k1, k2, l1, l2, lo, hi⟩ := hcr
      have hla : x.last = min x.data.size x.may.toNat := rfl
      rw [hL', hW', hk]
      unfold limitN
      rcases h.my with h1 | h1 | ⟨h1, h2⟩
      · have : max m x.last = m := by omega
        rw [this, if_neg (by omega)]
        exact ⟨Or.inr (by omega), Or.inl h1⟩
      · omega
      · rw [if_pos (by omega)]
        exact ⟨Or.inr (by omega), Or.inl (by omega)⟩
  obtain ⟨hx1, hx2⟩ := hmx _ rfl
  refine ⟨max m x.last, ⟨pe.symm, by rw [q4]; exact h.em, h.td, by omega, fun j => ?_, ht', ?_, hx1, ?_⟩, by omega, fun e1 e2 => ?_, q5, hW', hadd.2, hadd.1⟩
  · have : (y.hear x).M = M' := by unfold EnS.hear; rw [r1, c, f5]
    rw [this]; exact hM2 j
  · show max m x.last ≤ x.data.size; omega
  · rcases hx2 with h1 | h1
    · exact Or.inl h1
    · exact Or.inr (Or.inl h1)
  · have hla : x.last = min x.data.size x.may.toNat := rfl
    obtain ⟨w1, w2, r1, k1, k2, l1, l2, lo, hi⟩ := hcr
    rcases h.li with h1 | h1 <;> omega
/-- y's packet came to x -/
theorem Lo.back {x y : EnS} {a m : Nat} (h : Lo x y a m) (hm : y.made.length ≤ 1000000) (he : x.takeE y.packet ≠ 4) :
    Lo (x.take y.packet) y.make m m ∧ (x.take y.packet).may = y.L ∧ (x.take y.packet).data = x.data ∧ (x.take y.packet).made = x.made ∧ (x.take y.packet).came = addL x.came y.made.length ∧ addE x.came y.made.length = 0 := by
  have f := Fly.made h.pr.oy hm
  have hp2 := h.pr.symm.make
  have hadd : addE x.came y.made.length = 0 := by
    rcases take_fly hp2.ox hp2.oy hp2.xy hp2.yx f (by show (y.made ++ [y.pieces]).length ≤ _; simp) hm with ⟨a, _⟩ | ⟨_, _, a, _⟩ | ⟨_, ha, _⟩
    · rw [new_num h.pr.yx] at a; cases a
    · exact absurd a he
    · exact ha
  obtain ⟨e0, C', M', c, hp, hf, hM⟩ := send_take h.pr.symm hm he
  obtain ⟨f1, f2, f3, f4, f5, f6, f7, f8, f9⟩ := got_fields x y.made.length y.came y.L C' M'
  have hmy : (x.take y.packet).may = y.L := hf.2
  have hd : (x.take y.packet).data = x.data := by rw [c, f1]
  refine ⟨⟨hp.symm, h.em, fun j => ?_, Nat.le_refl _, h.mm, h.tm, by rw [hd]; exact h.ml, by rw [hd]; exact h.li, Or.inr (Or.inr ⟨rfl, hmy⟩)⟩, hmy, hd, by rw [c, f2], by rw [c, f6], hadd⟩
  have h1 := hf.1 j
  have h2 := hp.yx.tl j
  have h3 : (Plc.at y.make.M j).isSome = decide (j < m) := h.mm j
  rw [h3] at h1 h2
  cases hb : decide (j < m) with
  | true => exact h1 hb
  | false =>
    cases hc : tat (x.take y.packet).told j with
    | false => rfl
    | true => have := h2 hc; rw [hb] at this; cases this
theorem Lo.loseX {x y : EnS} {a m : Nat} (h : Lo x y a m) : Lo x.make y a m := ⟨h.pr.make, h.em, h.td, h.am, h.mm, h.tm, h.ml, h.li, h.my⟩
theorem Lo.loseY {x y : EnS} {a m : Nat} (h : Lo x y a m) : Lo x y.make a m := ⟨h.pr.symm.make.symm, h.em, h.td, h.am, h.mm, h.tm, h.ml, h.li, h.my⟩
theorem Lo.start {n : Int} (h1 : 1 ≤ n) (h2 : n ≤ 1000) (d : ByteArray) (hd : d.size ≤ 60) : Lo ((EnS.new n).write d) (EnS.new n) 0 0 := by
  have e : ((EnS.new n).write d) = { EnS.new n with data := d } := by
    unfold EnS.write
    rw [if_neg (by show ¬ 60 < 0 + d.size; omega)]
    have : (⟨#[]⟩ : ByteArray) ++ d = d := ByteArray.empty_append
    show ({ EnS.new n with data := (⟨#[]⟩ : ByteArray) ++ d } : EnS) = _
    rw [this]
  refine ⟨(Pair.new h1 h2).write d, rfl, fun j => ?_, Nat.le_refl _, fun j => ?_, rfl, by omega, Or.inr ?_, Or.inr (Or.inr ⟨rfl, by rw [e]; rfl⟩)⟩
  · rw [e]
    show tat (List.replicate 60 false) j = _
    unfold tat
    simp only [List.getD, List.getElem?_replicate]
    split <;> simp
  · show (Plc.at Plc.new j).isSome = _
    rw [Plc.new_at]; simp
  · show n = ((0 : Nat) : Int) + n; omega
/-- who knows that all is there tells no piece -/
theorem Lo.silent {x y : EnS} {m : Nat} (h : Lo x y m m) (hl : m = x.data.size) : x.pieces = [] := by
  have hlast := h.pr.ox.last
  unfold EnS.pieces
  rw [pcsR_from (t := m) (fun j hj => by rw [h.td]; simp; omega) m 0 (by omega), pcsR_none (by omega)]
end Go.Proofs.YtaindcicloapfaaGreatDoor

/-! Plain words on two ends over a link that loses nothing: a round there and back; the first packet of all; what is refused changes nothing. No program here. -/
namespace Go.Proofs.YtaindcicloapfaaGreatDoor
open Go.ChangeShapes Go.WideShapes Go.ChangeAt Go.RowKit
set_option linter.unusedVariables false

theorem take_bad {s : EnS} {b : List UInt8} (h : s.takeE b ≠ 0) : s.take b = s := by
  unfold EnS.takeE at h
  unfold EnS.take
  by_cases h0 : openE b (nextN s.came) = 0
  · rw [if_pos h0] at h ⊢
    unfold EnS.pktE at h
    unfold EnS.pkt
    by_cases h1 : inB s.came (openN b (nextN s.came)) = true
    · rw [if_pos h1]
    · rw [if_neg h1] at h ⊢
      by_cases h2 : (s.takes (openL b (nextN s.came))).1 = 0
      · rw [if_pos h2] at h ⊢
        rw [if_neg h]
      · rw [if_neg h2]
  · rw [if_neg h0]
/-- the first packet of one comes to one to whom nothing came -/
theorem first_open {x : EnS} (h : EnOk x) (h0 : x.made = []) (hk : x.known = -1) : openE x.packet 0 = 0 ∧ openN x.packet 0 = 0 ∧ openL x.packet 0 = x.frames := by
  have hp := h.packetOk (by rw [h0]; show 0 ≤ 1000000; omega)
  have hl : (x.made.length : Int) = 0 := by rw [h0]; rfl
  rw [hl, hk] at hp
  have := open_about (next := 0) hp.1 ⟨by omega, by omega⟩ (by omega) (by omega)
  have e : x.packet = pktB 0 (-1) x.frames := by unfold EnS.packet; rw [hl, hk]
  rw [e]
  exact ⟨this.1, this.2.1, this.2.2.1⟩
theorem first_take {x y : EnS} (h : EnOk x) (h0 : x.made = []) (hk : x.known = -1) (hy : y.came = []) : y.takeE x.packet = y.pktE 0 x.frames ∧ y.take x.packet = y.pkt 0 x.frames := by
  obtain ⟨o1, o2, o3⟩ := first_open h h0 hk
  have hn : nextN y.came = 0 := by rw [hy]; rfl
  unfold EnS.takeE EnS.take
  rw [hn, o1, o2, o3]
  exact ⟨if_pos rfl, if_pos rfl⟩
/-- what an end is when data was written -/
theorem new_write {n : Int} {d : ByteArray} (hd : d.size ≤ 60) : (EnS.new n).write d = { EnS.new n with data := d } ∧ (EnS.new n).writeE d = 0 := by
  have hz : ¬ 60 < (EnS.new n).data.size + d.size := by show ¬ 60 < 0 + d.size; omega
  refine ⟨?_, by unfold EnS.writeE; rw [if_neg hz]⟩
  unfold EnS.write
  rw [if_neg hz]
  have : (⟨#[]⟩ : ByteArray) ++ d = d := ByteArray.empty_append
  show ({ EnS.new n with data := (⟨#[]⟩ : ByteArray) ++ d } : EnS) = _
  rw [this]
theorem new_full {n : Int} {d : ByteArray} (hd : ¬ d.size ≤ 60) : (EnS.new n).writeE d = 4 := by
  unfold EnS.writeE
  rw [if_pos (by show 60 < 0 + d.size; omega)]
/-- so many rounds went well -/
structure Rnd (x y : EnS) (i : Nat) : Prop where
  lo : ∃ m, Lo x y m m ∧ min x.data.size (i * y.W.toNat) ≤ m
  fr : x.may = y.L
  gx : Gaps y.came x.made.length 0
  gy : Gaps x.came y.made.length 0
  mx : x.made.length = i
  my : y.made.length = i
theorem Rnd.start {n : Int} (h1 : 1 ≤ n) (h2 : n ≤ 1000) {d : ByteArray} (hd : d.size ≤ 60) : Rnd ((EnS.new n).write d) (EnS.new n) 0 := by
  have e := (new_write (n := n) hd).1
  refine ⟨⟨0, Lo.start h1 h2 d hd, by omega⟩, by rw [e]; rfl, by rw [e]; exact Gaps.new, by rw [e]; exact Gaps.new, by rw [e]; rfl, rfl⟩
theorem not4 {s : EnS} {x : EnS} (h : Pair x s) (hm : x.made.length ≤ 1000000) (ha : addE s.came x.made.length = 0) : s.takeE x.packet ≠ 4 := by
  have f := Fly.made h.ox hm
  have hp := h.make
  rcases take_fly hp.ox hp.oy hp.xy hp.yx f (by show (x.made ++ [x.pieces]).length ≤ _; simp) hm with ⟨_, a, _⟩ | ⟨_, a, _⟩ | ⟨_, _, a, _⟩
  · rw [a]; decide
  · rw [ha] at a; cases a
  · rw [a]; decide
theorem took0 {s : EnS} {x : EnS} (h : Pair x s) (hm : x.made.length ≤ 1000000) (ha : addE s.came x.made.length = 0) : s.takeE x.packet = 0 := (send_take h hm (not4 h hm ha)).1
theorem Rnd.next {x y : EnS} {i : Nat} (h : Rnd x y i) (hi : i ≤ 1000) :
    y.takeE x.packet = 0 ∧ x.make.takeE (y.hear x).packet = 0 ∧ Rnd (x.make.take (y.hear x).packet) (y.hear x).make (i + 1) ∧ (y.hear x).W = y.W ∧ (x.make.take (y.hear x).packet).data = x.data ∧ (y.hear x).data = y.data := by
  obtain ⟨m, hlo, hm⟩ := h.lo
  have hmx : x.made.length ≤ 1000000 := by rw [h.mx]; omega
  have ha := h.gx.fits hlo.pr.oy.cm hmx (by omega)
  have n4 := not4 hlo.pr hmx ha
  obtain ⟨m', l1, l2, l3, l4, l5, l6, l7⟩ := hlo.hear hmx n4
  have hmy : (y.hear x).made.length ≤ 1000000 := by rw [l4, h.my]; omega
  have hgy : Gaps x.make.came (y.hear x).made.length 0 := by rw [l4]; exact h.gy
  have hb := hgy.fits l1.pr.ox.cm hmy (by omega)
  have n5 := not4 l1.pr.symm hmy hb
  obtain ⟨b1, b2, b3, b4, b5, b6⟩ := l1.back hmy n5
  have hd := exchange hlo.pr hmx n4
  refine ⟨took0 hlo.pr hmx ha, took0 l1.pr.symm hmy hb, ⟨⟨m', b1, ?_⟩, b2, ?_, ?_, ?_, ?_⟩, l5, b3, hd.2.2.2.1⟩
  · have h3 := l3 rfl h.fr
    rw [b3]
    show min x.data.size ((i + 1) * (y.hear x).W.toNat) ≤ m'
    rw [l5, Nat.add_mul, Nat.one_mul]
    omega
  · show Gaps (y.hear x).came _ 0
    rw [b4, l6]
    show Gaps _ (x.made ++ [x.pieces]).length 0
    rw [List.length_append]
    exact h.gx.come hlo.pr.oy.cm ha (came_lt hlo.pr.xy)
  · rw [b5]
    show Gaps _ ((y.hear x).made ++ [(y.hear x).pieces]).length 0
    rw [List.length_append]
    exact hgy.come l1.pr.ox.cm hb (came_lt l1.pr.yx)
  · rw [b4]
    show (x.made ++ [x.pieces]).length = i + 1
    rw [List.length_append, h.mx]; rfl
  · show ((y.hear x).made ++ [(y.hear x).pieces]).length = i + 1
    rw [List.length_append, l4, h.my]; rfl
/-- the next packet of x, by who expects just it -/
theorem own_open {x : EnS} (h : EnOk x) (hm : x.made.length ≤ 1000000) : openE x.packet x.made.length = 0 ∧ openN x.packet x.made.length = x.made.length ∧ openL x.packet x.made.length = x.frames := by
  have hp := h.packetOk hm
  have := open_about (next := x.made.length) hp.1 ⟨by omega, by omega⟩ hp.2.1.2.2 (by omega)
  exact ⟨this.1, this.2.1, this.2.2.1⟩
/-- a packet that came already comes again -/
theorem again {x y : EnS} (h : Pair x y) (hm : x.made.length ≤ 90) (ha : addE y.came x.made.length = 0) : (y.take x.packet).takeE x.packet = 0 ∧ (y.take x.packet).take x.packet = y.take x.packet := by
  have n4 := not4 h (by omega) ha
  obtain ⟨e0, C', M', c, hp, hf, hM⟩ := send_take h (by omega) n4
  have f := Fly.made h.ox (by omega)
  have hi : inB (y.take x.packet).came (x.made.length : Int) = true := by
    rw [c, (got_fields y x.made.length x.came x.L C' M').2.2.2.2.2.1, addL_in h.oy.cm ha]; simp
  rcases take_fly hp.ox hp.oy hp.xy hp.yx f (by show (x.made ++ [x.pieces]).length ≤ _; simp) (by omega) with ⟨_, a, b⟩ | ⟨a, _⟩ | ⟨a, _⟩
  · exact ⟨a, b⟩
  · rw [hi] at a; cases a
  · rw [hi] at a; cases a
end Go.Proofs.YtaindcicloapfaaGreatDoor

/-! Plain law for packets that are lost: who reads where nothing is ready stays as it is. Condition: as named. -/
namespace Go.Proofs.YtaindcicloapfaaGreatDoor
open Go.ChangeShapes Go.WideShapes Go.ChangeAt Go.RowKit
set_option linter.unusedVariables false

theorem Lo.none {x y : EnS} {a m : Nat} (h : Lo x y a m) : takeK y.M y.t 60 = 0 := by
  have h60 := h.pr.ox.dz
  have hml := h.ml
  have hr : readyN y.M y.t = 0 := readyN_eq (fun j hj => by omega) (by rw [h.tm]; omega) (Or.inl (by rw [h.mm, h.tm]; exact decide_eq_false (by omega)))
  unfold takeK
  rw [hr]; rfl
theorem Lo.reads {x y : EnS} {a m : Nat} (h : Lo x y a m) : y.readS 60 = ⟨#[]⟩ ∧ (y.read 60).t = y.t ∧ (y.read 60).W = y.W := by
  have hk := h.none
  refine ⟨?_, ?_, ?_⟩
  · unfold EnS.readS
    rw [if_neg (by decide), hk]; rfl
  · unfold EnS.read
    rw [if_neg (by decide), hk]; rfl
  · unfold EnS.read
    rw [if_neg (by decide)]
theorem Lo.readL {x y : EnS} {a m : Nat} (h : Lo x y a m) (hm : m < x.data.size) : (y.read 60).L = y.L := by
  have hk := h.none
  have hrt := h.pr.oy.rt
  have htm := h.tm
  obtain ⟨c1, c2, -⟩ := h.pr.oy.cr
  unfold EnS.read
  rw [if_neg (by decide), hk]
  show limitN y.W y.L y.R ((0 : Nat) : Int) = y.L
  rcases h.li with h1 | h1
  · omega
  · unfold limitN
    rw [if_neg (by omega)]
theorem Lo.read {x y : EnS} {a m : Nat} (h : Lo x y a m) : Lo x (y.read 60) a m := by
  obtain ⟨r1, r2, r3, r4, r5, r6⟩ := read_rest (y := y) 60
  obtain ⟨-, q2, q3⟩ := h.reads
  refine ⟨(h.pr.symm.read 60).symm, by rw [r4]; exact h.em, h.td, h.am, fun j => by rw [r1]; exact h.mm j, by rw [q2]; exact h.tm, h.ml, ?_, ?_⟩
  · by_cases hm : m < x.data.size
    · rw [h.readL hm, q3]; exact h.li
    · have := h.ml; exact Or.inl (by omega)
  · by_cases hm : m < x.data.size
    · rw [h.readL hm]; exact h.my
    · have := h.ml; exact Or.inr (Or.inl (by omega))
/-- behind r rounds: c steps were made; F: what came is known, S: the answer of just this round was lost -/
structure Ly (n : Int) (ev ot : Nat) (x y : EnS) (r : Nat) : Prop where
  lo : ∃ a m c, Lo x y a m ∧ min x.data.size (10 * c) ≤ m ∧ (m = x.data.size ∨ (a = m ∧ x.may = y.L ∧ r ≤ 3 * c + (if r % ev = 0 then 1 else 0)) ∨ (r % ot = 0 ∧ r + 1 ≤ 3 * c))
  w : y.W = n
  gx : Gaps y.came x.made.length (r / ev)
  gy : Gaps x.came y.made.length (r / ot)
  mx : x.made.length = r
  my : y.made.length = r
/-- behind x's half of a round -/
structure Lh (n : Int) (ev ot : Nat) (x y : EnS) (r : Nat) : Prop where
  lo : ∃ a m c, Lo x y a m ∧ min x.data.size (10 * c) ≤ m ∧ (m = x.data.size ∨ (a = m ∧ x.may = y.L ∧ r + 1 ≤ 3 * c + (if (r + 1) % ev = 0 then 1 else 0)) ∨ r + 2 ≤ 3 * c ∨ (r % ot = 0 ∧ r + 1 ≤ 3 * c))
  w : y.W = n
  gx : Gaps y.came x.made.length ((r + 1) / ev)
  gy : Gaps x.came y.made.length (r / ot)
  mx : x.made.length = r + 1
  my : y.made.length = r
theorem div_lost {r v : Nat} (h : (r + 1) % v = 0) (hv : 2 ≤ v) : (r + 1) / v = r / v + 1 := by
  rw [Nat.succ_div, if_pos (Nat.dvd_of_mod_eq_zero h)]
theorem div_kept {r v : Nat} (h : ¬ (r + 1) % v = 0) : (r + 1) / v = r / v := by
  rw [Nat.succ_div, if_neg (fun hd => h (Nat.mod_eq_zero_of_dvd hd)), Nat.add_zero]
theorem not_both {r v : Nat} (hv : 2 ≤ v) (h1 : r % v = 0) : ¬ (r + 1) % v = 0 := by
  intro h2
  have h3 := Nat.dvd_of_mod_eq_zero h1
  have h4 := Nat.dvd_of_mod_eq_zero h2
  have h5 : v ∣ 1 := (Nat.dvd_add_right h3).1 h4
  have := Nat.le_of_dvd (by omega) h5
  omega
/-- x's packet is lost -/
theorem Ly.loseX {n : Int} {ev ot r : Nat} {x y : EnS} (h : Ly n ev ot x y r) (he : 2 ≤ ev) (hl : (r + 1) % ev = 0) : Lh n ev ot x.make (y.read 60) r := by
  obtain ⟨a, m, c, l1, l2, l3⟩ := h.lo
  obtain ⟨r1, r2, r3, r4, r5, r6⟩ := read_rest (y := y) 60
  have hlen : x.make.made.length = x.made.length + 1 := by show (x.made ++ [x.pieces]).length = _; rw [List.length_append]; rfl
  refine ⟨⟨a, m, c, l1.read.loseX, l2, ?_⟩, by rw [l1.reads.2.2]; exact h.w, ?_, by rw [r5]; exact h.gy, by rw [hlen, h.mx], by rw [r5]; exact h.my⟩
  · rcases l3 with h1 | ⟨h1, h2, h3⟩ | h1
    · exact Or.inl h1
    · by_cases hm : m < x.data.size
      · have hn : ¬ r % ev = 0 := fun h0 => not_both he h0 hl
        rw [if_neg hn] at h3
        exact Or.inr (Or.inl ⟨h1, by rw [l1.readL hm]; exact h2, by rw [if_pos hl]; omega⟩)
      · exact Or.inl (by have := l1.ml; show m = x.data.size; omega)
    · exact Or.inr (Or.inr (Or.inr h1))
  · rw [r6, hlen, div_lost hl he]
    exact h.gx.lose
/-- x's packet comes, and is read -/
theorem Ly.hear {n : Int} {ev ot r : Nat} {x y : EnS} (h : Ly n ev ot x y r) (hn : 10 ≤ n) (hl : ¬ (r + 1) % ev = 0) (hr : r ≤ 1000) (he : y.takeE x.packet ≠ 4) : Lh n ev ot x.make (y.hear x) r := by
  obtain ⟨a, m, c, l1, l2, l3⟩ := h.lo
  obtain ⟨m', q1, q2, q3, q4, q5, q6, q7⟩ := l1.hear (by rw [h.mx]; omega) he
  have hlen : x.make.made.length = x.made.length + 1 := by show (x.made ++ [x.pieces]).length = _; rw [List.length_append]; rfl
  have hml : m' ≤ x.data.size := q1.ml
  refine ⟨?_, by rw [q5]; exact h.w, ?_, by rw [q4]; exact h.gy, by rw [hlen, h.mx], by rw [q4]; exact h.my⟩
  · rcases l3 with h1 | ⟨h1, h2, h3⟩ | h1
    · exact ⟨a, m', c, q1, by show min x.data.size (10 * c) ≤ m'; omega, Or.inl (by show m' = x.data.size; omega)⟩
    · have hs := q3 h1 h2
      have hw := h.w
      refine ⟨a, m', c + 1, q1, by show min x.data.size (10 * (c + 1)) ≤ m'; omega, Or.inr (Or.inr (Or.inl ?_))⟩
      split at h3 <;> omega
    · exact ⟨a, m', c, q1, by show min x.data.size (10 * c) ≤ m'; omega, Or.inr (Or.inr (Or.inr h1))⟩
  · rw [q6, hlen, div_kept hl]
    exact h.gx.come l1.pr.oy.cm q7 (came_lt l1.pr.xy)
/-- y's packet is lost -/
theorem Lh.loseY {n : Int} {ev ot r : Nat} {x y : EnS} (h : Lh n ev ot x y r) (ho : 2 ≤ ot) (hl : (r + 1) % ot = 0) : Ly n ev ot x y.make (r + 1) := by
  obtain ⟨a, m, c, l1, l2, l3⟩ := h.lo
  have hlen : y.make.made.length = y.made.length + 1 := by show (y.made ++ [y.pieces]).length = _; rw [List.length_append]; rfl
  refine ⟨⟨a, m, c, l1.loseY, l2, ?_⟩, h.w, h.gx, ?_, h.mx, by rw [hlen, h.my]⟩
  · rcases l3 with h1 | ⟨h1, h2, h3⟩ | h1 | ⟨h1, h2⟩
    · exact Or.inl h1
    · exact Or.inr (Or.inl ⟨h1, h2, h3⟩)
    · exact Or.inr (Or.inr ⟨hl, by omega⟩)
    · exact absurd hl (not_both ho h1)
  · rw [hlen, div_lost hl ho]
    exact h.gy.lose
/-- y's packet comes -/
theorem Lh.back {n : Int} {ev ot r : Nat} {x y : EnS} (h : Lh n ev ot x y r) (hl : ¬ (r + 1) % ot = 0) (hr : r ≤ 1000) (he : x.takeE y.packet ≠ 4) : Ly n ev ot (x.take y.packet) y.make (r + 1) ∧ (x.take y.packet).data = x.data := by
  obtain ⟨a, m, c, l1, l2, l3⟩ := h.lo
  obtain ⟨b1, b2, b3, b4, b5, b6⟩ := l1.back (by rw [h.my]; omega) he
  have hlen : y.make.made.length = y.made.length + 1 := by show (y.made ++ [y.pieces]).length = _; rw [List.length_append]; rfl
  refine ⟨⟨⟨m, m, c, b1, by rw [b3]; exact l2, ?_⟩, h.w, by rw [b4]; exact h.gx, ?_, by rw [b4]; exact h.mx, by rw [hlen, h.my]⟩, b3⟩
  · rcases l3 with h1 | ⟨h1, h2, h3⟩ | h1 | ⟨h1, h2⟩
    · exact Or.inl (by rw [b3]; exact h1)
    · exact Or.inr (Or.inl ⟨rfl, b2, h3⟩)
    · exact Or.inr (Or.inl ⟨rfl, b2, by omega⟩)
    · exact Or.inr (Or.inl ⟨rfl, b2, by omega⟩)
  · rw [b5, hlen, div_kept hl]
    exact h.gy.come l1.pr.ox.cm b6 (came_lt l1.pr.yx)
/-- behind twenty rounds all was read -/
theorem Ly.all {n : Int} {ev ot r : Nat} {x y : EnS} (h : Ly n ev ot x y r) (hr : 20 ≤ r) : y.t = x.data.size := by
  obtain ⟨a, m, c, l1, l2, l3⟩ := h.lo
  have h60 := l1.pr.ox.dz
  have hml := l1.ml
  rw [l1.tm]
  rcases l3 with h1 | ⟨h1, h2, h3⟩ | ⟨h1, h2⟩
  · exact h1
  · split at h3 <;> omega
  · omega
/-- a refusal comes late -/
theorem Ly.late {n : Int} {ev ot r : Nat} {x y : EnS} (h : Ly n ev ot x y r) (he : 2 ≤ ev) (hr : r ≤ 1000) (hb : y.takeE x.packet ≠ 0) : 24 ≤ r ∧ y.takeE x.packet = 4 := by
  obtain ⟨a, m, c, l1, l2, l3⟩ := h.lo
  have hmx : x.made.length ≤ 1000000 := by rw [h.mx]; omega
  have h4 : y.takeE x.packet = 4 := Classical.byContradiction fun h4 => hb (send_take l1.pr hmx h4).1
  refine ⟨Classical.byContradiction fun hlt => ?_, h4⟩
  have hq : r / ev ≤ 11 := by
    have h1 : r / ev ≤ r / 2 := Nat.div_le_div_left he (by omega)
    omega
  exact not4 l1.pr hmx (h.gx.fits l1.pr.oy.cm hmx hq) h4
theorem Lh.late {n : Int} {ev ot r : Nat} {x y : EnS} (h : Lh n ev ot x y r) (he : 2 ≤ ot) (hr : r ≤ 1000) (hb : x.takeE y.packet ≠ 0) : 24 ≤ r ∧ x.takeE y.packet = 4 := by
  obtain ⟨a, m, c, l1, l2, l3⟩ := h.lo
  have hmy : y.made.length ≤ 1000000 := by rw [h.my]; omega
  have h4 : x.takeE y.packet = 4 := Classical.byContradiction fun h4 => hb (send_take l1.pr.symm hmy h4).1
  refine ⟨Classical.byContradiction fun hlt => ?_, h4⟩
  have hq : r / ot ≤ 11 := by
    have h1 : r / ot ≤ r / 2 := Nat.div_le_div_left he (by omega)
    omega
  exact not4 l1.pr.symm hmy (h.gy.fits l1.pr.ox.cm hmy hq) h4
theorem Lh.all {n : Int} {ev ot r : Nat} {x y : EnS} (h : Lh n ev ot x y r) (hr : 20 ≤ r) : y.t = x.data.size := by
  obtain ⟨a, m, c, l1, l2, l3⟩ := h.lo
  have h60 := l1.pr.ox.dz
  have hml := l1.ml
  rw [l1.tm]
  rcases l3 with h1 | ⟨h1, h2, h3⟩ | h1 | ⟨h1, h2⟩
  · exact h1
  · split at h3 <;> omega
  · omega
  · omega
theorem Ly.start {n : Int} (h1 : 1 ≤ n) (h2 : n ≤ 1000) {ev ot : Nat} {d : ByteArray} (hd : d.size ≤ 60) : Ly n ev ot ((EnS.new n).write d) (EnS.new n) 0 := by
  have e := (new_write (n := n) hd).1
  refine ⟨⟨0, 0, 0, Lo.start h1 h2 d hd, by omega, Or.inr (Or.inl ⟨rfl, by rw [e]; rfl, by omega⟩)⟩, rfl, by rw [e, Nat.zero_div]; exact Gaps.new, by rw [e, Nat.zero_div]; exact Gaps.new, by rw [e]; rfl, rfl⟩
end Go.Proofs.YtaindcicloapfaaGreatDoor
