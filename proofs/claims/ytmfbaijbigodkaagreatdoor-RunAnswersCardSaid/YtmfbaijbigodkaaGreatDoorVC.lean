/- Contracts and plain laws that the claim leans on, part 3 of 10: each part has its own word. No condition beside theirs. -/
import Derived.Test.YtmfbaijbigodkaaGreatDoorBase
import Derived.Test.YtmfbaijbigodkaaGreatDoorOnly
import Derived.Test.YtmfbaijbigodkaaGreatDoorMay
import Derived.Test.YtmfbaijbigodkaaGreatDoorCredit
import Derived.Test.YtmfbaijbigodkaaGreatDoorVB
import Derived.Deep.RegionLaw
import Derived.Lib.ConvBytes
import Derived.Shelf.SlSortCmp.WholeK
import Derived.OwnWalk
import Derived.WalkSpells
set_option maxHeartbeats 40000000
set_option maxRecDepth 100000
namespace Go.Proofs.YtmfbaijbigodkaaGreatDoor
open Go.ChangeShapes Go.WideShapes Go.ChangeAt Go.RowKit
set_option linter.unusedVariables false
def frm0 : Frm := ⟨0, [], ByteArray.empty⟩
def pfE (b : List UInt8) : Int := if readF b = none then 2 else 0
def pfF (b : List UInt8) : Frm := ((readF b).getD (frm0, 0)).1
def pfN (b : List UInt8) : Nat := ((readF b).getD (frm0, 0)).2
theorem pf_none {b : List UInt8} (h : readF b = none) : pfE b = 2 ∧ pfF b = frm0 ∧ pfN b = 0 := by
 unfold pfE pfF pfN; rw [h]; exact ⟨by simp, rfl, rfl⟩
theorem pf_some {b : List UInt8} {f : Frm} {n : Nat} (h : readF b = some (f, n)) : pfE b = 0 ∧ pfF b = f ∧ pfN b = n := by
 unfold pfE pfF pfN; rw [h]; exact ⟨by simp, rfl, rfl⟩
theorem newA_none (g : Nat) : newA none g := fun b off h => by cases h
theorem frm0_in (w : World) : FrmIn w ⟨frm0, none, 0⟩ := ⟨by unfold okI frm0; simp, by simp [frm0], intsIn_nil w⟩
theorem readF_out {b : List UInt8} (h : b = [] ∨ bat b 0 < 1 ∨ 8 < bat b 0) : readF b = none := by unfold readF; rw [if_pos h]
theorem readF_rest {b : List UInt8} (h : ¬ (b = [] ∨ bat b 0 < 1 ∨ 8 < bat b 0)) : readF b = match restF (bat b 0) (b.drop 1) with | none => none | some (f, n) => some (f, n + 1) := by unfold readF; rw [if_neg h]; cases restF (bat b 0) (b.drop 1) <;> rfl
def blkI (v : Value) (g : Nat) : Prop := ∀ A n c b off, v = .slice A n c → A = some ⟨b, off, none⟩ → b ≠ g
theorem ints_out {w w' : World} {v : Value} {zs : List Int} {g : Nat} {t : TypeId} {cs : Array Value} (h : IntsIn w v zs) (hb : BlockIs w g t cs) (ht : t ≠ 3) (ho : Out w w' [g]) (hn : blkI v g) : IntsIn w' v zs := by
 obtain ⟨h1, A, cap, h2, h3, h4, h5⟩ := h
 refine ⟨h1, A, cap, h2, h3, h4, fun hne => ?_⟩
 obtain ⟨b, off, e, hlt, hc⟩ := h5 hne
 have hbn := hn _ _ _ _ _ h2 e
 refine ⟨b, off, e, Nat.lt_of_lt_of_le hlt ho.size, fun i hi => ?_⟩
 have hblk := ho.block b hlt (by simpa using hbn)
 rw [← hc i hi]
 unfold World.cell?
 simp only
 rw [hblk]
theorem fparseN (s : ByteArray) (w : World) (hz : s.size ≤ 9223372036854775707) (hK : KTab w) (hC : CTab w) :
  Calls Tryz.prog 95 #[.string s] w fun e w' => ∃ (p : FrmV), e = .returned (.tuple #[p.agg, .int .i64 (pfN s.data.toList), errV (pfE s.data.toList)]) ∧ Below w.heap.size w w' ∧ FrmIn w' p ∧ p.f = pfF s.data.toList ∧ newA p.A w.heap.size := by
 have HK := Lib.hid hK
 have HC := Lib.hid hC
 have HZ := Lib.hid hz
 have HB0 := Lib.hid (BlockIs.fresh w 93 #[.int .i64 0, .slice none 0 0, .string ⟨#[]⟩])
 have HS0 := Lib.hid (show Since w (w.alloc (.cells #[.int .i64 0, .slice none 0 0, .string ⟨#[]⟩] 93)) from (Since.refl w).alloc _)
 have hsz : s.data.toList.length = s.size := rfl
 have FR := Lib.hid (fun k W h1 h8 hW hW2 => frest k (s.extract 1 s.size) W h1 h8 (Nat.le_trans (str_drop_size s 1) hz) hW hW2)
 rw [str_drop] at FR
 obtain ⟨b, hb⟩ : ∃ b, s.data.toList = b := ⟨_, rfl⟩
 have HRO := Lib.hid (readF_out (b := b))
 have HRR := Lib.hid (readF_rest (b := b))
 have hat := fun h => str_at s 0 h
 rw [hb] at hat hsz FR ⊢
 have HBL := Lib.hid hsz
 clear hK hC hz hb
 by_cases h0 : s.size = 0
 · obtain ⟨e1, e2⟩ := str_empty h0
   obtain ⟨p1, p2, p3⟩ := pf_none (HRO.out (Or.inl (List.length_eq_zero_iff.1 (by omega))))
   have P1 := Lib.hid p1
   have P2 := Lib.hid p2
   have P3 := Lib.hid p3
   clear p1 p2 p3 hat hsz h0
   go_enter Tryz.func95, Tryz.ntmps95
   go_wp2_with fail
   refine bodyPost_ret (v := .tuple #[.agg #[.int .i64 0, .slice none 0 0, .string ⟨#[]⟩], .int .i64 0, errV 2]) (by simp [results, Tryz.results95, go_sem]; rfl) rfl ⟨⟨frm0, none, 0⟩, by rw [P1.out, P3.out]; rfl, (by exact Since.alloc (Since.refl _) _), frm0_in _, P2.out.symm, newA_none _⟩
 have hpos : 0 < s.size := by omega
 obtain ⟨e1, e2⟩ := str_full h0
 have e0 := hat hpos
 obtain ⟨b0, b1⟩ := bat_bounds b 0
 have hne : b ≠ [] := by intro h; rw [h] at hsz; simp at hsz; omega
 have HNE := Lib.hid hne
 generalize bat b 0 = x at *
 clear hat h0 hsz hne
 by_cases hx1 : x < 1
 · obtain ⟨p1, p2, p3⟩ := pf_none (HRO.out (Or.inr (Or.inl hx1)))
   have P1 := Lib.hid p1
   have P2 := Lib.hid p2
   have P3 := Lib.hid p3
   clear p1 p2 p3
   go_enter Tryz.func95, Tryz.ntmps95
   go_wp2_with fail
   refine bodyPost_ret (v := .tuple #[.agg #[.int .i64 0, .slice none 0 0, .string ⟨#[]⟩], .int .i64 0, errV 2]) (by simp [results, Tryz.results95, go_sem]; rfl) rfl ⟨⟨frm0, none, 0⟩, by rw [P1.out, P3.out]; rfl, (by exact Since.alloc (Since.refl _) _), frm0_in _, P2.out.symm, newA_none _⟩
 have hx1' : decide (x < 1) = false := by simpa using hx1
 by_cases hx8 : 8 < x
 · obtain ⟨p1, p2, p3⟩ := pf_none (HRO.out (Or.inr (Or.inr hx8)))
   have P1 := Lib.hid p1
   have P2 := Lib.hid p2
   have P3 := Lib.hid p3
   clear p1 p2 p3 hx1
   go_enter Tryz.func95, Tryz.ntmps95
   go_wp2_with fail
   refine bodyPost_ret (v := .tuple #[.agg #[.int .i64 0, .slice none 0 0, .string ⟨#[]⟩], .int .i64 0, errV 2]) (by simp [results, Tryz.results95, go_sem]; rfl) rfl ⟨⟨frm0, none, 0⟩, by rw [P1.out, P3.out]; rfl, (by exact Since.alloc (Since.refl _) _), frm0_in _, P2.out.symm, newA_none _⟩
 have hx8' : decide (8 < x) = false := by simpa using hx8
 have HR := Lib.hid (HRR.out (fun h => by rcases h with h | h | h; exact HNE.out h; omega; omega))
 have FR2 := Lib.hid (fun W hW hW2 => FR.out x W (by omega) (by omega) hW hW2)
 have hsl : (1 : Int) ≤ (s.size : Int) := by omega
 have hwrap : IntKind.i64.wrap x = x := by simp [IntKind.wrap, IntKind.bits, IntKind.signed]; omega
 have HX : Hid (1 ≤ x ∧ x ≤ 8) := Lib.hid (by omega)
 clear hx1 hx8
 go_enter Tryz.func95, Tryz.ntmps95
 go_wp2_with fail
 go_region_law (go_simp; go_at_call 131; refine (FR2.out _ (HK.out.later (by first | exact Since.drew (Since.alloc (Since.alloc (Since.refl _) _) _) | exact Since.drew (Since.alloc (Since.refl _) _))) (HC.out.later (by first | exact Since.drew (Since.alloc (Since.alloc (Since.refl _) _) _) | exact Since.drew (Since.alloc (Since.refl _) _)))).mono ?_; rintro e w1 ⟨⟨⟨kk, L, d⟩, A, c⟩, n, ok, rfl, hb1, hp1, hnw1, hr1⟩; (try dsimp only [FrmV.agg]); have HP1 := Lib.hid hp1; have HR1 := Lib.hid hr1; have HNW1 := Lib.hid hnw1; have HB1 := Lib.hid hb1; (first | (have hbx : BlockIs w1 (w.heap.size + 1) 93 #[.int .i64 0, .slice none 0 0, .string ⟨#[]⟩] := (by first | (refine BlockIs.later (BlockIs.drew (BlockIs.fresh_at ?_)) hb1; (simp only [World.size_alloc]; done)) | (refine BlockIs.later (BlockIs.fresh_at ?_) hb1; (simp only [World.size_alloc]; done))); have x0 : w1.cell? ⟨w.heap.size + 1, 0, none⟩ = some (.int .i64 0) := hbx.cell 0; have x1 : w1.cell? ⟨w.heap.size + 1, 1, none⟩ = some (.slice none 0 0) := hbx.cell 1; have x2 : w1.cell? ⟨w.heap.size + 1, 2, none⟩ = some (.string ⟨#[]⟩) := hbx.cell 2; have fx := hbx.free; have lx := hbx.lt; have HBX := Lib.hid hbx; clear hbx) | skip); clear hp1 hr1 hb1 hnw1)
 · have hb1 := HB1.out
   have hs1 : Since w w1 := (by exact Since.later (Since.drew (Since.alloc (Since.refl _) _)) hb1)
   have HNR : Hid (blkI (.slice A L.length c) w.heap.size) := Lib.hid (fun A' n' c' b' off' hv hA => by
    simp only [Value.slice.injEq] at hv
    obtain ⟨rfl, _⟩ := hv
    have := HNW1.out b' off' hA
    simp only [World.size_alloc, World.drew] at this
    omega)
   have HNB : Hid (ok = true → n ≤ s.size) := Lib.hid (fun h => by
    have := (restF_inv HX.out.1 HX.out.2 (show restF x (b.drop 1) = some (⟨kk, L, d⟩, n) by rw [HR1.out, if_pos h])).2.2.1
    rw [List.length_drop] at this
    have := HBL.out
    omega)
   have hbr : BlockIs w1 w.heap.size 93 #[.int .i64 0, .slice none 0 0, .string ⟨#[]⟩] := HB0.out.drew.later hb1
   have HBR := Lib.hid (hbr.alloc (.cells #[.int .i64 kk, .slice A L.length c, .string d] 93))
   have HBG := Lib.hid (BlockIs.fresh w1 93 #[.int .i64 kk, .slice A L.length c, .string d])
   have hsF : Since w (w1.alloc (.cells #[.int .i64 kk, .slice A L.length c, .string d] 93)) := hs1.alloc _
   have HPF : Hid (ok = true → FrmIn (w1.alloc (.cells #[.int .i64 kk, .slice A L.length c, .string d] 93)) ⟨⟨kk, L, d⟩, A, c⟩) := Lib.hid (fun h => (HP1.out h).later ((Since.refl w1).alloc _))
   clear hb1 hs1 hbr
   generalize (w1.alloc (.cells #[.int .i64 kk, .slice A L.length c, .string d] 93)) = wF at *
   have d0 : wF.cell? ⟨w1.heap.size, 0, none⟩ = some (.int .i64 kk) := HBG.out.cell 0
   have d1 : wF.cell? ⟨w1.heap.size, 1, none⟩ = some (.slice A L.length c) := HBG.out.cell 1
   have d2 : wF.cell? ⟨w1.heap.size, 2, none⟩ = some (.string d) := HBG.out.cell 2
   have y0 : wF.cell? ⟨w.heap.size, 0, none⟩ = some (.int .i64 0) := HBR.out.cell 0
   have y1 : wF.cell? ⟨w.heap.size, 1, none⟩ = some (.slice none 0 0) := HBR.out.cell 1
   have y2 : wF.cell? ⟨w.heap.size, 2, none⟩ = some (.string ⟨#[]⟩) := HBR.out.cell 2
   have fy := HBR.out.free
   have ly := HBR.out.lt
   have lg := HBG.out.lt
   cases ok with
   | false =>
     obtain ⟨p1, p2, p3⟩ := pf_none (b := b) (by rw [HR.out, HR1.out]; rfl)
     have P1 := Lib.hid p1
     have P2 := Lib.hid p2
     have P3 := Lib.hid p3
     clear p1 p2 p3
     go_wp2_with fail
     have HB3 := Lib.hid (st3 HBR.out (.int .i64 0) (.slice none 0 0) (.string ⟨#[]⟩))
     have hs3 := hsF.out' (out3 wF w.heap.size (.int .i64 0) (.slice none 0 0) (.string ⟨#[]⟩)) (fun k hk => by have : k = w.heap.size := by simpa using hk
                                                                                                                omega)
     generalize (((wF.setCell ⟨w.heap.size, 0, none⟩ (.int .i64 0)).setCell ⟨w.heap.size, 1, none⟩ (.slice none 0 0)).setCell ⟨w.heap.size, 2, none⟩ (.string ⟨#[]⟩)) = w3 at *
     have k0 : w3.cell? ⟨w.heap.size, 0, none⟩ = some (.int .i64 0) := HB3.out.cell 0
     have k1 : w3.cell? ⟨w.heap.size, 1, none⟩ = some (.slice none 0 0) := HB3.out.cell 1
     have k2 : w3.cell? ⟨w.heap.size, 2, none⟩ = some (.string ⟨#[]⟩) := HB3.out.cell 2
     refine bodyPost_ret (v := .tuple #[.agg #[.int .i64 0, .slice none 0 0, .string ⟨#[]⟩], .int .i64 0, errV 2]) (by simp [results, Tryz.results95, go_sem, k0, k1, k2]; rfl) rfl ⟨⟨frm0, none, 0⟩, by rw [P1.out, P3.out]; rfl, hs3, frm0_in _, P2.out.symm, newA_none _⟩
   | true =>
     obtain ⟨p1, p2, p3⟩ := pf_some (b := b) (by rw [HR.out, HR1.out]; rfl)
     have P1 := Lib.hid p1
     have P2 := Lib.hid p2
     have P3 := Lib.hid p3
     have hn8 : n ≤ 9223372036854775707 := Nat.le_trans (HNB.out (by first | rfl | trivial)) HZ.out
     clear p1 p2 p3
     go_wp2_with fail
     have HB3 := Lib.hid (st3 HBR.out (.int .i64 kk) (.slice A L.length c) (.string d))
     have HO3 := Lib.hid (out3 wF w.heap.size (.int .i64 kk) (.slice A L.length c) (.string d))
     have hs3 := hsF.out' HO3.out (fun k hk => by have : k = w.heap.size := by simpa using hk
                                                  omega)
     generalize (((wF.setCell ⟨w.heap.size, 0, none⟩ (.int .i64 kk)).setCell ⟨w.heap.size, 1, none⟩ (.slice A L.length c)).setCell ⟨w.heap.size, 2, none⟩ (.string d)) = w3 at *
     have k0 : w3.cell? ⟨w.heap.size, 0, none⟩ = some (.int .i64 kk) := HB3.out.cell 0
     have k1 : w3.cell? ⟨w.heap.size, 1, none⟩ = some (.slice A L.length c) := HB3.out.cell 1
     have k2 : w3.cell? ⟨w.heap.size, 2, none⟩ = some (.string d) := HB3.out.cell 2
     refine bodyPost_ret (v := .tuple #[.agg #[.int .i64 kk, .slice A L.length c, .string d], .int .i64 ((n : Int) + 1), errV 0]) (by simp [results, Tryz.results95, go_sem, k0, k1, k2]; rfl) rfl ⟨⟨⟨kk, L, d⟩, A, c⟩, by rw [P1.out, P3.out]; rfl, hs3, ?_, P2.out.symm, newA_le HNW1.out (by first | (simp [World.drew]; done) | (simp [World.drew]; omega) | (simp; omega))⟩
     refine ⟨(HPF.out (by first | rfl | trivial)).kind, (HPF.out (by first | rfl | trivial)).data, ?_⟩
     exact ints_out (HPF.out (by first | rfl | trivial)).nums HBR.out (by decide) HO3.out HNR.out
 · have hb1 := HB1.out
   have hs1 : Since w w1 := (by exact Since.later (Since.drew (Since.alloc (Since.alloc (Since.refl _) _) _)) hb1)
   have HNR : Hid (blkI (.slice A L.length c) w.heap.size) := Lib.hid (fun A' n' c' b' off' hv hA => by
    simp only [Value.slice.injEq] at hv
    obtain ⟨rfl, _⟩ := hv
    have := HNW1.out b' off' hA
    simp only [World.size_alloc, World.drew] at this
    omega)
   have HNR2 : Hid (blkI (.slice A L.length c) (w.heap.size + 1)) := Lib.hid (fun A' n' c' b' off' hv hA => by
    simp only [Value.slice.injEq] at hv
    obtain ⟨rfl, _⟩ := hv
    have := HNW1.out b' off' hA
    simp only [World.size_alloc, World.drew] at this
    omega)
   have HNB : Hid (ok = true → n ≤ s.size) := Lib.hid (fun h => by
    have := (restF_inv HX.out.1 HX.out.2 (show restF x (b.drop 1) = some (⟨kk, L, d⟩, n) by rw [HR1.out, if_pos h])).2.2.1
    rw [List.length_drop] at this
    have := HBL.out
    omega)
   have hbr : BlockIs w1 w.heap.size 93 #[.int .i64 0, .slice none 0 0, .string ⟨#[]⟩] := by first | exact BlockIs.later (BlockIs.drew (HB0.out.alloc _)) hb1 | exact BlockIs.later (HB0.out.drew.alloc _) hb1
   have HO2 := Lib.hid (out3 w1 (w.heap.size + 1) (.int .i64 kk) (.slice A L.length c) (.string d))
   have HBR := Lib.hid (HO2.out.block' hbr (by simp))
   have HBG := Lib.hid (st3 HBX.out (.int .i64 kk) (.slice A L.length c) (.string d))
   have hsF : Since w (((w1.setCell ⟨w.heap.size + 1, 0, none⟩ (.int .i64 kk)).setCell ⟨w.heap.size + 1, 1, none⟩ (.slice A L.length c)).setCell ⟨w.heap.size + 1, 2, none⟩ (.string d)) := hs1.out' HO2.out (fun k hk => by (have : k = w.heap.size + 1 := by simpa using hk); omega)
   have HPF : Hid (ok = true → FrmIn (((w1.setCell ⟨w.heap.size + 1, 0, none⟩ (.int .i64 kk)).setCell ⟨w.heap.size + 1, 1, none⟩ (.slice A L.length c)).setCell ⟨w.heap.size + 1, 2, none⟩ (.string d)) ⟨⟨kk, L, d⟩, A, c⟩) := Lib.hid (fun h => ⟨(HP1.out h).kind, (HP1.out h).data, ints_out (HP1.out h).nums HBX.out (by decide) HO2.out HNR2.out⟩)
   clear hb1 hs1 hbr x0 x1 x2 fx lx
   generalize (((w1.setCell ⟨w.heap.size + 1, 0, none⟩ (.int .i64 kk)).setCell ⟨w.heap.size + 1, 1, none⟩ (.slice A L.length c)).setCell ⟨w.heap.size + 1, 2, none⟩ (.string d)) = wF at *
   have d0 : wF.cell? ⟨w.heap.size + 1, 0, none⟩ = some (.int .i64 kk) := HBG.out.cell 0
   have d1 : wF.cell? ⟨w.heap.size + 1, 1, none⟩ = some (.slice A L.length c) := HBG.out.cell 1
   have d2 : wF.cell? ⟨w.heap.size + 1, 2, none⟩ = some (.string d) := HBG.out.cell 2
   have y0 : wF.cell? ⟨w.heap.size, 0, none⟩ = some (.int .i64 0) := HBR.out.cell 0
   have y1 : wF.cell? ⟨w.heap.size, 1, none⟩ = some (.slice none 0 0) := HBR.out.cell 1
   have y2 : wF.cell? ⟨w.heap.size, 2, none⟩ = some (.string ⟨#[]⟩) := HBR.out.cell 2
   have fy := HBR.out.free
   have ly := HBR.out.lt
   have lg := HBG.out.lt
   cases ok with
   | false =>
     obtain ⟨p1, p2, p3⟩ := pf_none (b := b) (by rw [HR.out, HR1.out]; rfl)
     have P1 := Lib.hid p1
     have P2 := Lib.hid p2
     have P3 := Lib.hid p3
     clear p1 p2 p3
     go_wp2_with fail
     have HB3 := Lib.hid (st3 HBR.out (.int .i64 0) (.slice none 0 0) (.string ⟨#[]⟩))
     have hs3 := hsF.out' (out3 wF w.heap.size (.int .i64 0) (.slice none 0 0) (.string ⟨#[]⟩)) (fun k hk => by have : k = w.heap.size := by simpa using hk
                                                                                                                omega)
     generalize (((wF.setCell ⟨w.heap.size, 0, none⟩ (.int .i64 0)).setCell ⟨w.heap.size, 1, none⟩ (.slice none 0 0)).setCell ⟨w.heap.size, 2, none⟩ (.string ⟨#[]⟩)) = w3 at *
     have k0 : w3.cell? ⟨w.heap.size, 0, none⟩ = some (.int .i64 0) := HB3.out.cell 0
     have k1 : w3.cell? ⟨w.heap.size, 1, none⟩ = some (.slice none 0 0) := HB3.out.cell 1
     have k2 : w3.cell? ⟨w.heap.size, 2, none⟩ = some (.string ⟨#[]⟩) := HB3.out.cell 2
     refine bodyPost_ret (v := .tuple #[.agg #[.int .i64 0, .slice none 0 0, .string ⟨#[]⟩], .int .i64 0, errV 2]) (by simp [results, Tryz.results95, go_sem, k0, k1, k2]; rfl) rfl ⟨⟨frm0, none, 0⟩, by rw [P1.out, P3.out]; rfl, hs3, frm0_in _, P2.out.symm, newA_none _⟩
   | true =>
     obtain ⟨p1, p2, p3⟩ := pf_some (b := b) (by rw [HR.out, HR1.out]; rfl)
     have P1 := Lib.hid p1
     have P2 := Lib.hid p2
     have P3 := Lib.hid p3
     have hn8 : n ≤ 9223372036854775707 := Nat.le_trans (HNB.out (by first | rfl | trivial)) HZ.out
     clear p1 p2 p3
     go_wp2_with fail
     have HB3 := Lib.hid (st3 HBR.out (.int .i64 kk) (.slice A L.length c) (.string d))
     have HO3 := Lib.hid (out3 wF w.heap.size (.int .i64 kk) (.slice A L.length c) (.string d))
     have hs3 := hsF.out' HO3.out (fun k hk => by have : k = w.heap.size := by simpa using hk
                                                  omega)
     generalize (((wF.setCell ⟨w.heap.size, 0, none⟩ (.int .i64 kk)).setCell ⟨w.heap.size, 1, none⟩ (.slice A L.length c)).setCell ⟨w.heap.size, 2, none⟩ (.string d)) = w3 at *
     have k0 : w3.cell? ⟨w.heap.size, 0, none⟩ = some (.int .i64 kk) := HB3.out.cell 0
     have k1 : w3.cell? ⟨w.heap.size, 1, none⟩ = some (.slice A L.length c) := HB3.out.cell 1
     have k2 : w3.cell? ⟨w.heap.size, 2, none⟩ = some (.string d) := HB3.out.cell 2
     refine bodyPost_ret (v := .tuple #[.agg #[.int .i64 kk, .slice A L.length c, .string d], .int .i64 ((n : Int) + 1), errV 0]) (by simp [results, Tryz.results95, go_sem, k0, k1, k2]; rfl) rfl ⟨⟨⟨kk, L, d⟩, A, c⟩, by rw [P1.out, P3.out]; rfl, hs3, ?_, P2.out.symm, newA_le HNW1.out (by first | (simp [World.drew]; done) | (simp [World.drew]; omega) | (simp; omega))⟩
     refine ⟨(HPF.out (by first | rfl | trivial)).kind, (HPF.out (by first | rfl | trivial)).data, ?_⟩
     exact ints_out (HPF.out (by first | rfl | trivial)).nums HBR.out (by decide) HO3.out HNR.out
 · have hb1 := HB1.out
   have hs1 : Since w w1 := (by exact Since.later (Since.drew (Since.alloc (Since.alloc (Since.refl _) _) _)) hb1)
   have HNR : Hid (blkI (.slice A L.length c) w.heap.size) := Lib.hid (fun A' n' c' b' off' hv hA => by
    simp only [Value.slice.injEq] at hv
    obtain ⟨rfl, _⟩ := hv
    have := HNW1.out b' off' hA
    simp only [World.size_alloc, World.drew] at this
    omega)
   have HNR2 : Hid (blkI (.slice A L.length c) (w.heap.size + 1)) := Lib.hid (fun A' n' c' b' off' hv hA => by
    simp only [Value.slice.injEq] at hv
    obtain ⟨rfl, _⟩ := hv
    have := HNW1.out b' off' hA
    simp only [World.size_alloc, World.drew] at this
    omega)
   have HNB : Hid (ok = true → n ≤ s.size) := Lib.hid (fun h => by
    have := (restF_inv HX.out.1 HX.out.2 (show restF x (b.drop 1) = some (⟨kk, L, d⟩, n) by rw [HR1.out, if_pos h])).2.2.1
    rw [List.length_drop] at this
    have := HBL.out
    omega)
   have hbr : BlockIs w1 w.heap.size 93 #[.int .i64 0, .slice none 0 0, .string ⟨#[]⟩] := by first | exact BlockIs.later (BlockIs.drew (HB0.out.alloc _)) hb1 | exact BlockIs.later (HB0.out.drew.alloc _) hb1
   have HO2 := Lib.hid (out3 w1 (w.heap.size + 1) (.int .i64 kk) (.slice A L.length c) (.string d))
   have HBR := Lib.hid (HO2.out.block' hbr (by simp))
   have HBG := Lib.hid (st3 HBX.out (.int .i64 kk) (.slice A L.length c) (.string d))
   have hsF : Since w (((w1.setCell ⟨w.heap.size + 1, 0, none⟩ (.int .i64 kk)).setCell ⟨w.heap.size + 1, 1, none⟩ (.slice A L.length c)).setCell ⟨w.heap.size + 1, 2, none⟩ (.string d)) := hs1.out' HO2.out (fun k hk => by (have : k = w.heap.size + 1 := by simpa using hk); omega)
   have HPF : Hid (ok = true → FrmIn (((w1.setCell ⟨w.heap.size + 1, 0, none⟩ (.int .i64 kk)).setCell ⟨w.heap.size + 1, 1, none⟩ (.slice A L.length c)).setCell ⟨w.heap.size + 1, 2, none⟩ (.string d)) ⟨⟨kk, L, d⟩, A, c⟩) := Lib.hid (fun h => ⟨(HP1.out h).kind, (HP1.out h).data, ints_out (HP1.out h).nums HBX.out (by decide) HO2.out HNR2.out⟩)
   clear hb1 hs1 hbr x0 x1 x2 fx lx
   generalize (((w1.setCell ⟨w.heap.size + 1, 0, none⟩ (.int .i64 kk)).setCell ⟨w.heap.size + 1, 1, none⟩ (.slice A L.length c)).setCell ⟨w.heap.size + 1, 2, none⟩ (.string d)) = wF at *
   have d0 : wF.cell? ⟨w.heap.size + 1, 0, none⟩ = some (.int .i64 kk) := HBG.out.cell 0
   have d1 : wF.cell? ⟨w.heap.size + 1, 1, none⟩ = some (.slice A L.length c) := HBG.out.cell 1
   have d2 : wF.cell? ⟨w.heap.size + 1, 2, none⟩ = some (.string d) := HBG.out.cell 2
   have y0 : wF.cell? ⟨w.heap.size, 0, none⟩ = some (.int .i64 0) := HBR.out.cell 0
   have y1 : wF.cell? ⟨w.heap.size, 1, none⟩ = some (.slice none 0 0) := HBR.out.cell 1
   have y2 : wF.cell? ⟨w.heap.size, 2, none⟩ = some (.string ⟨#[]⟩) := HBR.out.cell 2
   have fy := HBR.out.free
   have ly := HBR.out.lt
   have lg := HBG.out.lt
   cases ok with
   | false =>
     obtain ⟨p1, p2, p3⟩ := pf_none (b := b) (by rw [HR.out, HR1.out]; rfl)
     have P1 := Lib.hid p1
     have P2 := Lib.hid p2
     have P3 := Lib.hid p3
     clear p1 p2 p3
     go_wp2_with fail
     have HB3 := Lib.hid (st3 HBR.out (.int .i64 0) (.slice none 0 0) (.string ⟨#[]⟩))
     have hs3 := hsF.out' (out3 wF w.heap.size (.int .i64 0) (.slice none 0 0) (.string ⟨#[]⟩)) (fun k hk => by have : k = w.heap.size := by simpa using hk
                                                                                                                omega)
     generalize (((wF.setCell ⟨w.heap.size, 0, none⟩ (.int .i64 0)).setCell ⟨w.heap.size, 1, none⟩ (.slice none 0 0)).setCell ⟨w.heap.size, 2, none⟩ (.string ⟨#[]⟩)) = w3 at *
     have k0 : w3.cell? ⟨w.heap.size, 0, none⟩ = some (.int .i64 0) := HB3.out.cell 0
     have k1 : w3.cell? ⟨w.heap.size, 1, none⟩ = some (.slice none 0 0) := HB3.out.cell 1
     have k2 : w3.cell? ⟨w.heap.size, 2, none⟩ = some (.string ⟨#[]⟩) := HB3.out.cell 2
     refine bodyPost_ret (v := .tuple #[.agg #[.int .i64 0, .slice none 0 0, .string ⟨#[]⟩], .int .i64 0, errV 2]) (by simp [results, Tryz.results95, go_sem, k0, k1, k2]; rfl) rfl ⟨⟨frm0, none, 0⟩, by rw [P1.out, P3.out]; rfl, hs3, frm0_in _, P2.out.symm, newA_none _⟩
   | true =>
     obtain ⟨p1, p2, p3⟩ := pf_some (b := b) (by rw [HR.out, HR1.out]; rfl)
     have P1 := Lib.hid p1
     have P2 := Lib.hid p2
     have P3 := Lib.hid p3
     have hn8 : n ≤ 9223372036854775707 := Nat.le_trans (HNB.out (by first | rfl | trivial)) HZ.out
     clear p1 p2 p3
     go_wp2_with fail
     have HB3 := Lib.hid (st3 HBR.out (.int .i64 kk) (.slice A L.length c) (.string d))
     have HO3 := Lib.hid (out3 wF w.heap.size (.int .i64 kk) (.slice A L.length c) (.string d))
     have hs3 := hsF.out' HO3.out (fun k hk => by have : k = w.heap.size := by simpa using hk
                                                  omega)
     generalize (((wF.setCell ⟨w.heap.size, 0, none⟩ (.int .i64 kk)).setCell ⟨w.heap.size, 1, none⟩ (.slice A L.length c)).setCell ⟨w.heap.size, 2, none⟩ (.string d)) = w3 at *
     have k0 : w3.cell? ⟨w.heap.size, 0, none⟩ = some (.int .i64 kk) := HB3.out.cell 0
     have k1 : w3.cell? ⟨w.heap.size, 1, none⟩ = some (.slice A L.length c) := HB3.out.cell 1
     have k2 : w3.cell? ⟨w.heap.size, 2, none⟩ = some (.string d) := HB3.out.cell 2
     refine bodyPost_ret (v := .tuple #[.agg #[.int .i64 kk, .slice A L.length c, .string d], .int .i64 ((n : Int) + 1), errV 0]) (by simp [results, Tryz.results95, go_sem, k0, k1, k2]; rfl) rfl ⟨⟨⟨kk, L, d⟩, A, c⟩, by rw [P1.out, P3.out]; rfl, hs3, ?_, P2.out.symm, newA_le HNW1.out (by first | (simp [World.drew]; done) | (simp [World.drew]; omega) | (simp; omega))⟩
     refine ⟨(HPF.out (by first | rfl | trivial)).kind, (HPF.out (by first | rfl | trivial)).data, ?_⟩
     exact ints_out (HPF.out (by first | rfl | trivial)).nums HBR.out (by decide) HO3.out HNR.out
def headB (n b : Int) : List UInt8 :=
 byteOf b :: (if b = 1 then [byteOf (n % 256)] else if b = 2 then [byteOf (n / 256 % 256), byteOf (n % 256)]
  else if b = 3 then [byteOf (n / 65536 % 256), byteOf (n / 256 % 256), byteOf (n % 256)]
  else [byteOf (n / 16777216 % 256), byteOf (n / 65536 % 256), byteOf (n / 256 % 256), byteOf (n % 256)])
theorem headB_len {n b : Int} (h1 : 1 ≤ b) (h2 : b ≤ 4) : ((headB n b).length : Int) = b + 1 := by
 rcases four h1 h2 with rfl | rfl | rfl | rfl <;> rfl
def frmsB (L : List Frm) : List UInt8 := L.flatMap frmB
theorem frmsB_snoc (L : List Frm) (f : Frm) : frmsB (L ++ [f]) = frmsB L ++ frmB f := by simp [frmsB]
theorem frmsB_append (L M : List Frm) : frmsB (L ++ M) = frmsB L ++ frmsB M := by simp [frmsB]
def pktB (n known : Int) (L : List Frm) : List UInt8 := headB n (leastN (n - known)) ++ frmsB L
def frmsE : List Frm → Int
 | [] => 0
 | f :: L => if frmE f = 0 then frmsE L else frmE f
theorem frmsE_app_ok {L M : List Frm} (h : frmsE L = 0) : frmsE (L ++ M) = frmsE M := by
 induction L with
 | nil => rfl
 | cons f L ih =>
   rw [frmsE] at h
   by_cases h0 : frmE f = 0
   · rw [if_pos h0] at h
     rw [List.cons_append, frmsE, if_pos h0, ih h]
   · rw [if_neg h0] at h; exact absurd h h0
theorem frmsE_bad {L M : List Frm} {f : Frm} (h : frmsE L = 0) (hf : frmE f ≠ 0) : frmsE (L ++ f :: M) = frmE f := by
 rw [frmsE_app_ok h, frmsE, if_neg hf]
theorem frmsE_all {L : List Frm} (h : frmsE L = 0) : ∀ f ∈ L, frmE f = 0 := by
 induction L with
 | nil => simp
 | cons f L ih =>
   rw [frmsE] at h
   by_cases h0 : frmE f = 0
   · rw [if_pos h0] at h
     intro g hg
     rcases List.mem_cons.1 hg with rfl | hg
     · exact h0
     · exact ih h g hg
   · rw [if_neg h0] at h; exact absurd h h0
def pktE (n known : Int) (L : List Frm) : Int :=
 if NeedOk n known then (if L = [] then 5 else if 12 < L.length then 4 else if frmsE L = 0 then (if 200 < (pktB n known L).length then 4 else 0) else frmsE L) else 1
def pktV (n known : Int) (L : List Frm) : List UInt8 := if pktE n known L = 0 then pktB n known L else []
def cutOf (b : List UInt8) (m : Int) : Int :=
 if m = 1 then bat b 1 else if m = 2 then 256 * bat b 1 + bat b 2 else if m = 3 then 256 * (256 * bat b 1 + bat b 2) + bat b 3 else 256 * (256 * (256 * bat b 1 + bat b 2) + bat b 3) + bat b 4
def HeadOk (b : List UInt8) (next : Int) : Prop := b ≠ [] ∧ 1 ≤ bat b 0 ∧ bat b 0 ≤ 4 ∧ bat b 0 < b.length ∧ WholeOk (cutOf b (bat b 0)) (bat b 0) next
noncomputable instance (b : List UInt8) (next : Int) : Decidable (HeadOk b next) := Classical.propDecidable _
def rdFs (b : List UInt8) (k : Nat) : Nat → Option (List Frm × Nat)
 | 0 => some ([], k)
 | i + 1 => match rdFs b k i with
   | none => none
   | some (L, p) => if p < b.length then (match readF (b.drop p) with | none => none | some (f, n) => some (L ++ [f], p + n)) else some (L, p)
theorem rdFs_none {b : List UInt8} {k i : Nat} (h : rdFs b k i = none) : ∀ j, i ≤ j → rdFs b k j = none := by
 intro j hj
 induction j with
 | zero => obtain rfl : i = 0 := by omega
           exact h
 | succ j ih =>
   by_cases he : i = j + 1
   · rw [← he]; exact h
   · rw [rdFs, ih (by omega)]
theorem rdFs_end {b : List UInt8} {k i p : Nat} {L : List Frm} (h : rdFs b k i = some (L, p)) (hp : b.length ≤ p) : ∀ j, i ≤ j → rdFs b k j = some (L, p) := by
 intro j hj
 induction j with
 | zero => obtain rfl : i = 0 := by omega
           exact h
 | succ j ih =>
   by_cases he : i = j + 1
   · rw [← he]; exact h
   · rw [rdFs, ih (by omega)]; simp only; rw [if_neg (by omega)]
theorem rdFs_yes {b : List UInt8} {k i p n : Nat} {L : List Frm} {f : Frm} (h : rdFs b k i = some (L, p)) (hp : p < b.length) (hf : readF (b.drop p) = some (f, n)) : rdFs b k (i + 1) = some (L ++ [f], p + n) := by
 rw [rdFs, h]; simp only; rw [if_pos hp, hf]
theorem rdFs_no {b : List UInt8} {k i p : Nat} {L : List Frm} (h : rdFs b k i = some (L, p)) (hp : p < b.length) (hf : readF (b.drop p) = none) : rdFs b k (i + 1) = none := by
 rw [rdFs, h]; simp only; rw [if_pos hp, hf]
theorem rdFs_inv {b : List UInt8} {k : Nat} (hk : k ≤ b.length) : ∀ (i : Nat) (L : List Frm) (p : Nat), rdFs b k i = some (L, p) → p ≤ b.length ∧ L.length ≤ i ∧ (∀ f ∈ L, frmE f = 0) ∧ b.take p = b.take k ++ frmsB L ∧ (p < b.length → L.length = i ∧ k + i ≤ p)
 | 0, L, p, h => by
   simp only [rdFs, Option.some.injEq, Prod.mk.injEq] at h
   obtain ⟨rfl, rfl⟩ := h
   exact ⟨hk, by simp, by simp, by simp [frmsB], fun _ => ⟨rfl, by omega⟩⟩
 | i + 1, L, p, h => by
   cases hc : rdFs b k i with
   | none => rw [rdFs, hc] at h; cases h
   | some q =>
     obtain ⟨M, m⟩ := q
     obtain ⟨a1, a2, a3, a4, a5⟩ := rdFs_inv hk i M m hc
     by_cases hm : m < b.length
     · cases hf : readF (b.drop m) with
       | none => rw [rdFs_no hc hm hf] at h; cases h
       | some q2 =>
         obtain ⟨f, n⟩ := q2
         rw [rdFs_yes hc hm hf] at h
         simp only [Option.some.injEq, Prod.mk.injEq] at h
         obtain ⟨rfl, rfl⟩ := h
         obtain ⟨r1, r2, r3, r4⟩ := readF_inv hf
         rw [List.length_drop] at r3
         obtain ⟨c1, c2⟩ := a5 hm
         refine ⟨by omega, by simp; omega, fun g hg => ?_, by rw [List.take_add, a4, r4, frmsB_snoc, List.append_assoc], fun _ => ⟨by simp [c1], by omega⟩⟩
         rcases List.mem_append.1 hg with hg | hg
         · exact a3 g hg
         · rw [List.mem_singleton.1 hg]; exact r1
     · rw [rdFs_end hc (by omega) (i + 1) (by omega)] at h
       simp only [Option.some.injEq, Prod.mk.injEq] at h
       obtain ⟨rfl, rfl⟩ := h
       exact ⟨a1, by omega, a3, a4, fun h => absurd h hm⟩
noncomputable def openF (b : List UInt8) : Option (List Frm) := match rdFs b ((bat b 0).toNat + 1) b.length with | none => none | some (L, _) => if L = [] ∨ 12 < L.length then none else some L
noncomputable def openE (b : List UInt8) (next : Int) : Int :=
 if MayBe next then (if 200 < b.length then 4 else if HeadOk b next then (match openF b with | none => 2 | some _ => 0) else 2) else 1
noncomputable def openN (b : List UInt8) (next : Int) : Int := if openE b next = 0 then wholeN (cutOf b (bat b 0)) (bat b 0) next else 0
noncomputable def openL (b : List UInt8) (next : Int) : List Frm := if openE b next = 0 then (openF b).getD [] else []
noncomputable def firE (b : List UInt8) (next : Int) : Int := if HeadOk b next then 0 else 2
noncomputable def firN (b : List UInt8) (next : Int) : Int := if HeadOk b next then wholeN (cutOf b (bat b 0)) (bat b 0) next else 0
noncomputable def firK (b : List UInt8) (next : Int) : Int := if HeadOk b next then bat b 0 + 1 else 0
theorem fir_no {b : List UInt8} {next : Int} (h : ¬ HeadOk b next) : firE b next = 2 ∧ firN b next = 0 ∧ firK b next = 0 := by
 unfold firE firN firK; rw [if_neg h, if_neg h, if_neg h]; exact ⟨rfl, rfl, rfl⟩
theorem fir_yes {b : List UInt8} {next : Int} (h : HeadOk b next) : firE b next = 0 ∧ firN b next = wholeN (cutOf b (bat b 0)) (bat b 0) next ∧ firK b next = bat b 0 + 1 := by
 unfold firE firN firK; rw [if_pos h, if_pos h, if_pos h]; exact ⟨rfl, rfl, rfl⟩
def cutU (b : List UInt8) : Nat → Int
 | 0 => 0
 | j + 1 => 256 * cutU b j + bat b (j + 1)
theorem cutU_bounds (b : List UInt8) : ∀ j, 0 ≤ cutU b j ∧ cutU b j < 256 ^ j
 | 0 => by simp [cutU]
 | j + 1 => by
   obtain ⟨h1, h2⟩ := cutU_bounds b j
   obtain ⟨g1, g2⟩ := bat_bounds b (j + 1)
   rw [cutU, Int.pow_succ]
   omega
theorem cutU_of (b : List UInt8) {m : Nat} (h1 : 1 ≤ m) (h4 : m ≤ 4) : cutU b m = cutOf b m := by
 have : m = 1 ∨ m = 2 ∨ m = 3 ∨ m = 4 := by omega
 rcases this with rfl | rfl | rfl | rfl <;> simp [cutU, cutOf]
theorem Since.bytes {w wr : World} (h : Since w wr) (e : TypeId) (s : ByteArray) : Since w (Lib.bytesWorld wr e s) :=
 h.later ⟨rfl, rfl, rfl, by rw [Lib.bytesWorld_size]; omega, fun i hi => Lib.bytesWorld_at_old wr e s i hi⟩
theorem pfirst (s : ByteArray) (next : Int) (w : World) (hz : s.size ≤ 1000) :
  Calls Tryz.prog 94 #[.string s, .int .i64 next] w fun e w' => e = .returned (.tuple #[.int .i64 (firN s.data.toList next), .int .i64 (firK s.data.toList next), errV (firE s.data.toList next)]) ∧ Below w.heap.size w w' := by
 have hsz : s.data.toList.length = s.size := rfl
 have hat := fun h => str_at s 0 h
 obtain ⟨b, hb⟩ : ∃ b, s.data.toList = b := ⟨_, rfl⟩
 have HBD := Lib.hid hb
 have HNO := Lib.hid (fun h => fir_no (b := b) (next := next) h)
 have HYES := Lib.hid (fun h => fir_yes (b := b) (next := next) h)
 rw [hb] at hsz hat ⊢
 by_cases h0 : s.size = 0
 · obtain ⟨e1, e2⟩ := str_empty h0
   obtain ⟨p1, p2, p3⟩ := HNO.out (fun h => h.1 (List.length_eq_zero_iff.1 (by omega)))
   have P1 := Lib.hid p1
   have P2 := Lib.hid p2
   have P3 := Lib.hid p3
   clear p1 p2 p3 h0 hat hsz hb
   go_enter Tryz.func94, Tryz.ntmps94
   go_wp2_with fail
   go_ret3
   exact ⟨by rw [P1.out, P2.out, P3.out]; rfl, Below.refl _ _⟩
 obtain ⟨e1, e2⟩ := str_full h0
 have hpos : 0 < s.size := by omega
 have e0 := hat hpos
 obtain ⟨x, hx⟩ : ∃ x, bat b 0 = x := ⟨_, rfl⟩
 rw [hx] at e0
 obtain ⟨b0, b1⟩ := bat_bounds b 0
 rw [hx] at b0 b1
 have hwrap : IntKind.i64.wrap x = x := by simp [IntKind.wrap, IntKind.bits, IntKind.signed]; omega
 by_cases hlen : (s.size : Int) ≤ x
 · obtain ⟨p1, p2, p3⟩ := HNO.out (fun h => by have := h.2.2.2.1; omega)
   have P1 := Lib.hid p1
   have P2 := Lib.hid p2
   have P3 := Lib.hid p3
   clear p1 p2 p3 h0 hat hsz hb hx
   go_enter Tryz.func94, Tryz.ntmps94
   go_wp2_with fail
   go_ret3
   exact ⟨by rw [P1.out, P2.out, P3.out]; rfl, Below.refl _ _⟩
 have hlen' : decide ((s.size : Int) ≤ x) = false := by simpa using hlen
 by_cases h4 : 4 < x
 · obtain ⟨p1, p2, p3⟩ := HNO.out (fun h => by have := h.2.2.1; omega)
   have P1 := Lib.hid p1
   have P2 := Lib.hid p2
   have P3 := Lib.hid p3
   clear p1 p2 p3 h0 hat hsz hb hx hlen
   go_enter Tryz.func94, Tryz.ntmps94
   go_wp2_with fail
   go_ret3
   exact ⟨by rw [P1.out, P2.out, P3.out]; rfl, Below.refl _ _⟩
 have h4' : decide (4 < x) = false := by simpa using h4
 obtain ⟨m, rfl⟩ : ∃ m : Nat, x = m := ⟨x.toNat, by omega⟩
 have hw1 : IntKind.i64.wrap (1 + (m : Int)) = ((1 + m : Nat) : Int) := by simp [IntKind.wrap, IntKind.bits, IntKind.signed]; omega
 have hm1 : (1 : Int) + (m : Int) = ((1 + m : Nat) : Int) := by omega
 have hm2 : (1 : Int) ≤ ((1 + m : Nat) : Int) := by omega
 have hm3 : ((1 + m : Nat) : Int) ≤ (s.size : Int) := by omega
 have hcv := Lib.run_convert_string_bytes (P := Tryz.prog) w 9 131 5 (s.extract 1 (1 + m)) (u := .string) Tryz.underlying9 Tryz.underlying131 Tryz.underlying5
 have hex : (s.extract 1 (1 + m)).size = m := by rw [ByteArray.size_extract]; omega
 rw [hex] at hcv
 have hlen4 : m ≤ 4 := by omega
 obtain ⟨m1, hmm1⟩ : ∃ m1, 1 + m = m1 := ⟨_, rfl⟩
 rw [hmm1] at hw1 hm1 hm2 hm3 hcv
 clear h0 hat hb hlen h4 hmm1
 go_enter Tryz.func94, Tryz.ntmps94
 have hS1 : Since w (Lib.bytesWorld w 5 (s.extract 1 m1)) := (Since.refl w).bytes _ _
 have hB : ∀ j, j < m → (Lib.bytesWorld w 5 (s.extract 1 m1)).cell? ⟨w.heap.size, j, none⟩ = some (.int .u8 (bat b (j + 1))) := fun j hj => by
  rw [Lib.bytesWorld_cell w _ _ j (by rw [ByteArray.size_extract]; omega)]
  congr 2
  rw [ByteArray.data_extract, Array.toList_extract, List.extract_eq_take_drop, HBD.out]
  unfold bat
  simp only [List.getD, List.getElem?_take, List.getElem?_drop]
  rw [if_pos (by omega), Nat.add_comm 1 j]
 have HW1 : Hid (∀ k : Nat, WholeOk (cutU b k) k next → 1 ≤ (k : Int)) := Lib.hid (fun k hk => hk.2.1.1)
 have HHY : Hid (1 ≤ m → m ≤ 4 → WholeOk (cutOf b m) m next → HeadOk b next) := Lib.hid (fun a1 a2 a3 => ⟨fun hh => by rw [hh] at hsz; simp at hsz; omega, by rw [hx]; omega, by rw [hx]; omega, by rw [hx]; omega, by rw [hx]; exact a3⟩)
 have hlt : w.heap.size < (Lib.bytesWorld w 5 (s.extract 1 m1)).heap.size := by rw [Lib.bytesWorld_size]; omega
 obtain ⟨W1, hW1⟩ : ∃ W1, W1 = Lib.bytesWorld w 5 (s.extract 1 m1) := ⟨_, rfl⟩
 rw [← hW1] at hcv hS1 hB hlt
 have HB := Lib.hid hB
 clear hW1 hB
 go_wp2_with fail
 obtain ⟨wo, rfl⟩ : ∃ wo : World, wo = W1 := ⟨_, rfl⟩
 go_loopw [8, 36] (fun s8 s36 wr => ∃ j : Nat, s36 = .int .i64 j ∧ j ≤ m ∧ s8 = .int .i64 (cutU b j) ∧ wr = wo) (fun _ s36 _ => m - (intOf s36).toNat)
 case atStart => exact ⟨0, rfl, Nat.zero_le _, rfl, rfl⟩
 case round =>
  obtain ⟨j, rfl, hj, rfl, rfl⟩ := hrel
  by_cases hjm : j < m
  case neg =>
   obtain rfl : j = m := by omega
   have hf : decide ((j : Int) < (j : Int)) = false := by simp
   go_wp2_with fail
   refine (whole_any (cutU b j) j next _).mono ?_
   rintro e w1 ⟨rfl, rfl⟩
   by_cases hw : WholeOk (cutU b j) j next
   · have hj1 : 1 ≤ j := by have := HW1.out j hw; omega
     have hcu := cutU_of b hj1 hlen4
     obtain ⟨p1, p2, p3⟩ := HYES.out (HHY.out hj1 hlen4 (by rw [← hcu]; exact hw))
     rw [hx, ← hcu] at p2
     rw [hx] at p3
     have P1 := Lib.hid p1
     have P2 := Lib.hid p2
     have P3 := Lib.hid p3
     rw [show wholeE (cutU b j) j next = 0 by unfold wholeE; rw [if_pos hw], errV_zero, show wholeV (cutU b j) j next = wholeN (cutU b j) j next by unfold wholeV; rw [if_pos hw]]
     clear p1 p2 p3 hw hcu hj1
     generalize wholeN (cutU b j) j next = W at *
     go_wp2_with fail
     go_ret3
     exact ⟨by rw [P1.out, P2.out, P3.out, errV_zero, show (j : Int) + 1 = 1 + (j : Int) by omega]; first | rfl | (rw [hm1]; rfl), hS1⟩
   · obtain ⟨p1, p2, p3⟩ := HNO.out (fun hh => hw (by
      have h5 := hh.2.1
      have h6 := hh.2.2.2.2
      rw [hx] at h5 h6
      rw [cutU_of b (by omega) hlen4]; exact h6))
     have P1 := Lib.hid p1
     have P2 := Lib.hid p2
     have P3 := Lib.hid p3
     rw [show wholeE (cutU b j) j next = 1 by unfold wholeE; rw [if_neg hw], errV_pos (by decide)]
     clear p1 p2 p3 hw
     generalize wholeV (cutU b j) j next = W at *
     go_wp2_with fail
     go_ret3
     exact ⟨by rw [P1.out, P2.out, P3.out]; rfl, hS1⟩
  have hjm' : (j : Int) < (m : Int) := by omega
  have cj := HB.out j hjm
  obtain ⟨y0, y1⟩ := bat_bounds b (j + 1)
  obtain ⟨z0, z1⟩ := cutU_bounds b j
  have HCU : Hid (cutU b (j + 1) = 256 * cutU b j + bat b (j + 1)) := Lib.hid rfl
  have z2 : cutU b j < 16777216 := by
   have : j = 0 ∨ j = 1 ∨ j = 2 ∨ j = 3 := by omega
   rcases this with rfl | rfl | rfl | rfl <;> simp at z1 <;> omega
  clear z1
  generalize bat b (j + 1) = y at *
  generalize cutU b j = c at *
  go_wp2_with fail
  go_roundw
  case rel => exact ⟨j + 1, by go_num, by omega, by rw [HCU.out, i64_or8 (c * 256) y (by omega) (by omega) (by omega) (by omega) (by omega)]; congr 1; omega, by first | rfl | trivial⟩
  case measure => simp [intOf]; omega
theorem Tryz.elFrm : Elem Tryz.prog 91 93 3 48 := ⟨Tryz.underlying91, ⟨.agg #[.int .i64 0, .slice none 0 0, .string ByteArray.empty], rfl, by kernel_rfl⟩, by decide, by decide⟩
def farA (g : FrmV) (S : List Nat) : Prop := g.f.nums ≠ [] → ∀ b off, g.A = some ⟨b, off, none⟩ → b ∉ S
theorem FrmIn.out {X w9 : World} {S : List Nat} {g : FrmV} (h : FrmIn X g) (ho : Out X w9 S) (hf : farA g S) : FrmIn w9 g := by
 obtain ⟨h1, A, cap, h2, h3, h4, h5⟩ := h.nums
 refine ⟨h.kind, h.data, h1, A, cap, h2, h3, h4, fun hne => ?_⟩
 obtain ⟨b, off, e, hlt, hc⟩ := h5 hne
 have hA : g.A = A := by simp only [FrmV.v, Value.slice.injEq] at h2; exact h2.1
 have hbn := hf hne b off (hA.trans e)
 refine ⟨b, off, e, Nat.lt_of_lt_of_le hlt ho.size, fun i hi => ?_⟩
 rw [← hc i hi]
 unfold World.cell?
 simp only
 rw [ho.block b hlt hbn]
structure PsSt (w wr : World) (b : List UInt8) (k0 i p : Nat) (A : Option Addr) (c : Nat) (Ms : List FrmV) : Prop where
 ls : Lst wr 93 3 (.slice A i c) (Ms.map frmRow)
 each : ∀ g ∈ Ms, FrmIn wr g ∧ farA g (blocks (.slice A i c))
 new : ∀ q, q ∈ blocks (.slice A i c) → w.heap.size ≤ q
 since : Since w wr
 len : Ms.length = i
 up : rdFs b k0 i = some (Ms.map (·.f), p)
 le : p ≤ b.length
 ip : k0 + i ≤ p
theorem farA_lt {w : World} {g : FrmV} {q : Nat} (h : FrmIn w g) (hq : w.heap.size ≤ q) : farA g [q] := by
 intro hne b off hA
 obtain ⟨_, A, cap, h2, _, _, h5⟩ := h.nums
 obtain ⟨b', off', e, hlt, _⟩ := h5 hne
 have hA2 : g.A = A := by simp only [FrmV.v, Value.slice.injEq] at h2; exact h2.1
 rw [hA2, e] at hA
 have : b' = b := by injection hA with h1; injection h1
 simp; omega
theorem PsSt.step {w wr W w9 : World} {b : List UInt8} {k0 i p n q9 c c9 : Nat} {A : Option Addr} {Ms : List FrmV} {g : FrmV} {o1 o2 : Obj} (h : PsSt w wr b k0 i p A c Ms) (hb : Below wr.heap.size wr W) (hg : FrmIn W g) (hn : newA g.A wr.heap.size)
  (hr : readF (b.drop p) = some (g.f, n)) (hp : p < b.length)
  (hl : Lst w9 93 3 (.slice (some ⟨q9, 0, none⟩) (i + 1) c9) (Ms.map frmRow ++ [frmRow g])) (ho : Out ((W.alloc o1).alloc o2) w9 (blocks (.slice A i c))) (hq : q9 ∈ blocks (.slice A i c) ∨ q9 = ((W.alloc o1).alloc o2).heap.size) :
  PsSt w w9 b k0 (i + 1) (p + n) (some ⟨q9, 0, none⟩) c9 (Ms ++ [g]) := by
 have hWX : Below W.heap.size W ((W.alloc o1).alloc o2) := ((Since.refl W).alloc o1).alloc o2
 have hwX : Below wr.heap.size wr ((W.alloc o1).alloc o2) := (Since.later (w := wr) hb hWX)
 have hsz : W.heap.size ≤ ((W.alloc o1).alloc o2).heap.size := hWX.size
 have hgX : FrmIn ((W.alloc o1).alloc o2) g := hg.later hWX
 have hold : ∀ q, q ∈ blocks (.slice A i c) → q < wr.heap.size := h.ls.lt
 have hgf : farA g (blocks (.slice A i c)) := fun _ b' off' hA hm => by have := hn b' off' hA; have := hold b' hm; omega
 refine ⟨by rw [List.map_append]; exact hl, fun g' hg' => ?_, fun q hqm => ?_, (h.since.later hwX).out' ho h.new, by rw [List.length_append, h.len]; rfl, ?_, ?_, by have := (readF_inv hr).2.1; have := h.ip; omega⟩
 · have key : ∀ x : FrmV, FrmIn ((W.alloc o1).alloc o2) x → farA x (blocks (.slice A i c)) → FrmIn w9 x ∧ farA x (blocks (.slice (some ⟨q9, 0, none⟩) (i + 1) c9)) := fun x hx hxf => by
    refine ⟨hx.out ho hxf, fun hne b' off' hA hm => ?_⟩
    have hm' : q9 = b' := by simpa [Value.ownBlock] using hm
    subst hm'
    rcases hq with hq | hq
    · exact hxf hne q9 off' hA hq
    · exact farA_lt hx (Nat.le_of_eq hq.symm) hne q9 off' hA (by simp)
   rcases List.mem_append.1 hg' with hm | hm
   · obtain ⟨e1, e2⟩ := h.each g' hm
     exact key g' (e1.later hwX) e2
   · rw [List.mem_singleton.1 hm]; exact key g hgX hgf
 · have hm' : q9 = q := by simpa [Value.ownBlock] using hqm
   rw [← hm']
   rcases hq with hq | hq
   · exact h.new q9 hq
   · rw [hq]; have := h.since.le; have := hwX.size; omega
 · rw [List.map_append]; exact rdFs_yes h.up hp hr
 · have := (readF_inv hr).2.2.1; rw [List.length_drop] at this; omega
theorem op_bad {b : List UInt8} {next k : Int} (h : openE b next = k) (hk : k ≠ 0) : openN b next = 0 ∧ openL b next = [] := by
 unfold openN openL; rw [if_neg (by rw [h]; exact hk), if_neg (by rw [h]; exact hk)]; exact ⟨rfl, rfl⟩
theorem op_may {b : List UInt8} {next : Int} (h : ¬ MayBe next) : openE b next = 1 := by unfold openE; rw [if_neg h]
theorem op_big {b : List UInt8} {next : Int} (h : MayBe next) (h2 : 200 < b.length) : openE b next = 4 := by unfold openE; rw [if_pos h, if_pos h2]
theorem op_head {b : List UInt8} {next : Int} (h : MayBe next) (h2 : ¬ 200 < b.length) (h3 : ¬ HeadOk b next) : openE b next = 2 := by unfold openE; rw [if_pos h, if_neg h2, if_neg h3]
theorem op_none {b : List UInt8} {next : Int} (h : MayBe next) (h2 : ¬ 200 < b.length) (h3 : HeadOk b next) (h4 : openF b = none) : openE b next = 2 := by unfold openE; rw [if_pos h, if_neg h2, if_pos h3, h4]
theorem op_some {b : List UInt8} {next : Int} {L : List Frm} (h : MayBe next) (h2 : ¬ 200 < b.length) (h3 : HeadOk b next) (h4 : openF b = some L) : openE b next = 0 ∧ openN b next = wholeN (cutOf b (bat b 0)) (bat b 0) next ∧ openL b next = L := by
 have e : openE b next = 0 := by unfold openE; rw [if_pos h, if_neg h2, if_pos h3, h4]
 unfold openN openL
 rw [if_pos e, if_pos e, h4]; exact ⟨e, rfl, rfl⟩
theorem opF_none {b : List UInt8} (h : rdFs b ((bat b 0).toNat + 1) b.length = none) : openF b = none := by unfold openF; rw [h]
theorem opF_few {b : List UInt8} {L : List Frm} {p : Nat} (h : rdFs b ((bat b 0).toNat + 1) b.length = some (L, p)) (hx : L = [] ∨ 12 < L.length) : openF b = none := by unfold openF; rw [h]; simp only; rw [if_pos hx]
theorem opF_some {b : List UInt8} {L : List Frm} {p : Nat} (h : rdFs b ((bat b 0).toNat + 1) b.length = some (L, p)) (hx : ¬ (L = [] ∨ 12 < L.length)) : openF b = some L := by unfold openF; rw [h]; simp only; rw [if_neg hx]
abbrev PkPost (b : List UInt8) (next : Int) (w : World) (e : Ending) (w' : World) : Prop := ∃ (A : Option Addr) (n c : Nat) (Ms : List FrmV), e = .returned (.tuple #[.int .i64 (openN b next), .slice A n c, errV (openE b next)]) ∧ Below w.heap.size w w' ∧ FrmsIn w' (.slice A n c) Ms ∧ Ms.length = n ∧ Ms.map (·.f) = openL b next
theorem frms0 (w : World) : FrmsIn w (.slice none 0 0) [] := ⟨by simp, Rd.nil _ _⟩
theorem pkparse (s : ByteArray) (next : Int) (w : World) (hz : s.size ≤ 9223372036854775707) (hK : KTab w) (hC : CTab w) :
  Calls Tryz.prog 53 #[.string s, .int .i64 next] w fun e w' => PkPost s.data.toList next w e w' := by
 have HK := Lib.hid hK
 have HC := Lib.hid hC
 have hsz : s.data.toList.length = s.size := rfl
 have PF := Lib.hid (fun h W => pfirst s next W h)
 have FP := Lib.hid (fun k W h1 h2 => fparseN (s.extract k s.size) W (Nat.le_trans (str_drop_size s k) hz) h1 h2)
 have HDR := Lib.hid (fun k => str_drop s k)
 obtain ⟨b, hb⟩ : ∃ b, s.data.toList = b := ⟨_, rfl⟩
 rw [hb] at hsz PF ⊢
 have HDB : Hid (∀ k, (s.extract k s.size).data.toList = b.drop k) := Lib.hid (fun k => by rw [HDR.out, hb])
 have HSZ := Lib.hid hsz
 clear hK hC hb HDR
 by_cases hm : MayBe next
 case neg =>
  have p1 := op_may (b := b) hm
  obtain ⟨p2, p3⟩ := op_bad p1 (by decide)
  have P1 := Lib.hid p1
  have P2 := Lib.hid p2
  have P3 := Lib.hid p3
  have hmb := Lib.hid (mayB_not hm)
  clear p1 p2 p3 hm hsz
  go_enter Tryz.func53, Tryz.ntmps53
  go_wp2_with fail
  refine (may_any next _).mono ?_
  rintro e w1 ⟨rfl, rfl⟩
  rw [hmb.out]
  go_wp2_with fail
  go_ret3
  exact ⟨none, 0, 0, [], by rw [P1.out, P2.out]; rfl, Below.refl _ _, frms0 _, rfl, by rw [P3.out]; rfl⟩
 have HM := Lib.hid hm
 have hmb := Lib.hid (mayB_iff.2 hm)
 clear hm
 by_cases h200 : 200 < s.size
 · have p1 := op_big (b := b) HM.out (by omega)
   obtain ⟨p2, p3⟩ := op_bad p1 (by decide)
   have P1 := Lib.hid p1
   have P2 := Lib.hid p2
   have P3 := Lib.hid p3
   have h200' : (200 : Int) < (s.size : Int) := by omega
   clear p1 p2 p3 hsz
   go_enter Tryz.func53, Tryz.ntmps53
   go_wp2_with fail
   refine (may_any next _).mono ?_
   rintro e w1 ⟨rfl, rfl⟩
   rw [hmb.out]
   go_wp2_with fail
   go_ret3
   exact ⟨none, 0, 0, [], by rw [P1.out, P2.out]; rfl, Below.refl _ _, frms0 _, rfl, by rw [P3.out]; rfl⟩
 have h200' : decide ((200 : Int) < (s.size : Int)) = false := by simp; omega
 have HB2 : Hid (¬ 200 < b.length) := Lib.hid (by omega)
 have hs200 : s.size ≤ 200 := by omega
 have PF2 := Lib.hid (PF.out (by omega))
 clear h200
 by_cases hh : HeadOk b next
 case neg =>
  have p1 := op_head (b := b) HM.out HB2.out hh
  obtain ⟨p2, p3⟩ := op_bad p1 (by decide)
  obtain ⟨f1, f2, f3⟩ := fir_no hh
  have P1 := Lib.hid p1
  have P2 := Lib.hid p2
  have P3 := Lib.hid p3
  rw [f1, f2, f3] at PF2
  clear p1 p2 p3 hsz f1 f2 f3 hh
  go_enter Tryz.func53, Tryz.ntmps53
  go_wp2_with fail
  refine (may_any next _).mono ?_
  rintro e w1 ⟨rfl, rfl⟩
  rw [hmb.out]
  go_wp2_with fail
  refine (PF2.out _).mono ?_
  rintro e w1 ⟨rfl, hb1⟩
  rw [errV_pos (by decide)]
  go_wp2_with fail
  go_ret3
  exact ⟨none, 0, 0, [], by rw [P1.out, P2.out]; rfl, hb1, frms0 _, rfl, by rw [P3.out]; rfl⟩
 obtain ⟨f1, f2, f3⟩ := fir_yes hh
 obtain ⟨k0, hk0⟩ : ∃ k0, (bat b 0).toNat + 1 = k0 := ⟨_, rfl⟩
 have hk1 : bat b 0 + 1 = (k0 : Int) := by have := hh.2.1; omega
 have hkb : k0 ≤ b.length := by have := hh.2.2.2.1; omega
 rw [f1, f2, f3, hk1, errV_zero] at PF2
 have HON := Lib.hid (fun h => (op_none HM.out HB2.out hh (opF_none h)))
 have HOF := Lib.hid (fun L p h hx => (op_none HM.out HB2.out hh (opF_few (L := L) (p := p) h hx)))
 have HOS := Lib.hid (fun L p h hx => (op_some HM.out HB2.out hh (opF_some (L := L) (p := p) h hx)))
 rw [hk0] at HON HOF HOS
 have HST : Hid (∀ W, Since w W → PsSt w W b k0 0 k0 none 0 []) := Lib.hid (fun W hW => ⟨Lst.nil _ _ _, by simp, by simp [Value.ownBlock], hW, rfl, rfl, hkb, by omega⟩)
 generalize wholeN (cutOf b (bat b 0)) (bat b 0) next = N at *
 clear f1 f2 f3 hk0 hk1 hh hkb
 go_enter Tryz.func53, Tryz.ntmps53
 go_wp2_with fail
 refine (may_any next _).mono ?_
 rintro e w1 ⟨rfl, rfl⟩
 rw [hmb.out]
 go_wp2_with fail
 refine (PF2.out _).mono ?_
 rintro e w1 ⟨rfl, hb1⟩
 have HS1 := Lib.hid (HST.out w1 hb1)
 go_wp2_with fail
 go_loopw [8, 10] (fun s8 s10 wr => ∃ (i p : Nat) (A : Option Addr) (c : Nat) (Ms : List FrmV), s8 = .int .i64 p ∧ s10 = .slice A i c ∧ p ≤ s.size ∧ Hid (PsSt w wr b k0 i p A c Ms)) (fun s8 _ _ => s.size - (intOf s8).toNat)
 case atStart => exact ⟨0, k0, none, 0, [], rfl, rfl, by have := HS1.out.le; omega, HS1⟩
 case round =>
  obtain ⟨i, p, A, c, Ms, rfl, rfl, hp, HS⟩ := hrel
  have hs := Lib.hid HS.out.since
  have HML := Lib.hid HS.out.len
  by_cases hlt : p < s.size
  case neg =>
   have hf : decide ((p : Int) < (s.size : Int)) = false := by simp; omega
   have hup : rdFs b k0 b.length = some (Ms.map (·.f), p) := rdFs_end HS.out.up (by have := HSZ.out; omega) _ (by have := HS.out.ip; have := HS.out.le; omega)
   have hmm : (Ms.map (·.f)).length = i := by rw [List.length_map, HML.out]
   by_cases h0 : i = 0
   · subst h0
     have p1 := HOF.out _ _ hup (Or.inl (List.length_eq_zero_iff.1 hmm))
     obtain ⟨p2, p3⟩ := op_bad p1 (by decide)
     have P1 := Lib.hid p1
     have P2 := Lib.hid p2
     have P3 := Lib.hid p3
     clear p1 p2 p3 hup hmm
     go_wp2_with fail
     go_ret3
     exact ⟨none, 0, 0, [], by rw [P1.out, P2.out]; rfl, hs.out, frms0 _, rfl, by rw [P3.out]; rfl⟩
   have h0' : ((i : Int) == 0) = false := by rw [beq_eq_false_iff_ne]; omega
   by_cases h12 : 12 < i
   · have p1 := HOF.out _ _ hup (Or.inr (by rw [hmm]; exact h12))
     obtain ⟨p2, p3⟩ := op_bad p1 (by decide)
     have P1 := Lib.hid p1
     have P2 := Lib.hid p2
     have P3 := Lib.hid p3
     have h12' : (12 : Int) < (i : Int) := by omega
     clear p1 p2 p3 hup hmm h0
     go_wp2_with fail
     go_ret3
     exact ⟨none, 0, 0, [], by rw [P1.out, P2.out]; rfl, hs.out, frms0 _, rfl, by rw [P3.out]; rfl⟩
   obtain ⟨p1, p2, p3⟩ := HOS.out _ _ hup (fun hx => by
    rcases hx with hx | hx
    · have := congrArg List.length hx; rw [hmm] at this; exact h0 this
    · rw [hmm] at hx; exact h12 hx)
   have P1 := Lib.hid p1
   have P2 := Lib.hid p2
   have P3 := Lib.hid p3
   have h12' : decide ((12 : Int) < (i : Int)) = false := by simp; omega
   clear p1 p2 p3 hup hmm h0 h12
   go_wp2_with fail
   go_ret3
   exact ⟨A, i, c, Ms, by rw [P1.out, P2.out]; rfl, hs.out, ⟨fun g hg => (HS.out.each g hg).1, Rd.of_lst HS.out.ls⟩, HML.out, P3.out.symm⟩
  have hlt' : (p : Int) < (s.size : Int) := by omega
  have hp0 : (p : Int) ≤ (s.size : Int) := by omega
  have FPp := Lib.hid (FP.out p)
  rw [HDB.out] at FPp
  have hov := HSZ.out
  clear hlt
  go_wp2_with fail
  refine (FPp.out _ (HK.out.later hs.out) (HC.out.later hs.out)).mono ?_
  rintro e w2 ⟨g, rfl, hb2, hg2, hgf2, hgn2⟩
  cases hrd : readF (b.drop p) with
  | none =>
    obtain ⟨q1, q2, q3⟩ := pf_none hrd
    have p1 := HON.out (rdFs_none (rdFs_no HS.out.up (by omega) hrd) _ (by have := HS.out.ip; omega))
    obtain ⟨p2, p3⟩ := op_bad p1 (by decide)
    have P1 := Lib.hid p1
    have P2 := Lib.hid p2
    have P3 := Lib.hid p3
    rw [q1, q3, errV_pos (by decide)]
    have hs2 := hs.out.later hb2
    clear p1 p2 p3 q1 q2 q3 hrd hg2 hgf2 hgn2 hb2
    go_wp2_with fail
    go_ret3
    exact ⟨none, 0, 0, [], by rw [P1.out, P2.out]; rfl, (by exact Since.alloc hs2 _), frms0 _, rfl, by rw [P3.out]; rfl⟩
  | some q =>
    obtain ⟨f, n⟩ := q
    obtain ⟨q1, q2, q3⟩ := pf_some hrd
    obtain ⟨_, r2, r3, _⟩ := readF_inv hrd
    rw [q1, q3, errV_zero]
    rw [q2] at hgf2
    rw [List.length_drop] at r3
    have HRD : Hid (readF (b.drop p) = some (g.f, n)) := Lib.hid (by rw [hrd, hgf2])
    have HLS := Lib.hid (((HS.out.ls.later hb2).alloc (.cells #[.int .i64 g.f.kind, .slice g.A g.f.nums.length g.cap, .string g.f.data] 93)).alloc (.cells #[.int .i64 g.f.kind, .slice g.A g.f.nums.length g.cap, .string g.f.data] 93))
    have HMR : Hid ((Ms.map frmRow).length = i) := Lib.hid (by rw [List.length_map, HML.out])
    have HSTEP := Lib.hid (fun q9 c9 w9 o1 o2 hl ho hq => HS.out.step (q9 := q9) (c9 := c9) (w9 := w9) (o1 := o1) (o2 := o2) hb2 hg2 hgn2 HRD.out (by omega) hl ho hq)
    have HBK := Lib.hid (BlockIs.fresh (w2.alloc (.cells #[.int .i64 g.f.kind, .slice g.A g.f.nums.length g.cap, .string g.f.data] 93)) 93 #[.int .i64 g.f.kind, .slice g.A g.f.nums.length g.cap, .string g.f.data])
    rw [World.size_alloc] at HBK
    obtain ⟨pn, hpn0⟩ : ∃ pn, p + n = pn := ⟨_, rfl⟩
    have hpn : (p : Int) + (n : Int) = (pn : Int) := by omega
    have hpn3 : p < pn := by omega
    have hpn4 : pn ≤ s.size := by omega
    rw [hpn0] at HSTEP
    clear hpn0
    have hi6 : i ≤ 200 := by have := HS.out.ip; omega
    clear q1 q2 q3 hrd hgf2 hg2 hgn2 hb2
    go_wp2_with (at_builtin; refine wpList_push rfl _ _ 91 rfl 93 3 48 Tryz.elFrm (.slice A i c) (Ms.map frmRow) rfl HLS.out (w2.heap.size + 1) 1 (frmRow g) rfl rfl (frmRow_one g).2 HBK.out (by rw [HMR.out]; omega) ?_; intro q9 cq w5 hl5 ho5 hq5 hlt5; rw [HMR.out] at hl5; (try rw [HMR.out]); have HN5 := Lib.hid (HSTEP.out q9 cq w5 _ _ hl5 ho5 hq5); clear hl5 ho5 hq5 hlt5)
    go_wp2_with fail
    go_roundw
    case rel => exact ⟨i + 1, pn, some ⟨q9, 0, none⟩, cq, Ms ++ [g], by first | rfl | (rw [hpn]), rfl, hpn4, HN5⟩
    case measure => simp [intOf]; omega
def u8Row (n : Int) : List Value := [.int .u8 n]
theorem u8Row_one (n : Int) : (u8Row n).length = 1 ∧ ∀ u ∈ u8Row n, u.oneCell' = true := ⟨rfl, by intro u hu; simp [u8Row] at hu; rw [hu]; rfl⟩
theorem Tryz.elU8 : Elem Tryz.prog 131 5 1 1 := ⟨Tryz.underlying131, ⟨.int .u8 0, rfl, by kernel_rfl⟩, by decide, by decide⟩
def hdZ (n b : Int) : List Int := b :: (if b = 1 then [n % 256] else if b = 2 then [n / 256 % 256, n % 256]
 else if b = 3 then [n / 65536 % 256, n / 256 % 256, n % 256] else [n / 16777216 % 256, n / 65536 % 256, n / 256 % 256, n % 256])
theorem hdZ_bytes {n b : Int} (h1 : 1 ≤ b) (h2 : b ≤ 4) : (hdZ n b).map byteOf = headB n b := by
 rcases four h1 h2 with rfl | rfl | rfl | rfl <;> rfl
theorem hdZ_len {n b : Int} (h1 : 1 ≤ b) (h2 : b ≤ 4) : ((hdZ n b).length : Int) = b + 1 := by
 rcases four h1 h2 with rfl | rfl | rfl | rfl <;> rfl
def shB (c : Int) : Nat → Int
 | 0 => c % 256
 | 1 => c / 256 % 256
 | 2 => c / 65536 % 256
 | _ => c / 16777216 % 256
theorem hdZ_next {n c : Int} {m j i : Nat} (hc : n % rnd (m : Int) = c) (h1 : 1 ≤ m) (h4 : m ≤ 4) (hji : m - 1 - j = i) (hj : j < m) : (hdZ n m).take (j + 2) = (hdZ n m).take (j + 1) ++ [shB c i] := by
 subst hc hji
 have hm : m = 1 ∨ m = 2 ∨ m = 3 ∨ m = 4 := by omega
 have hjj : j = 0 ∨ j = 1 ∨ j = 2 ∨ j = 3 := by omega
 rcases hm with rfl | rfl | rfl | rfl <;> rcases hjj with rfl | rfl | rfl | rfl <;> first | omega | (simp [hdZ, rnd, shB]; done) | (simp [hdZ, rnd, shB]; omega)
structure HdSt (w wr : World) (ns : List Int) (j : Nat) (q c : Nat) : Prop where
 ls : Lst wr 5 1 (.slice (some ⟨q, 0, none⟩) j c) ((ns.take j).map u8Row)
 new : w.heap.size ≤ q
 since : Since w wr
theorem HdSt.step {w wr w5 : World} {ns : List Int} {j q c q9 cq : Nat} {x y : Int} {o : Obj} (h : HdSt w wr ns (j + 1) q c) (ht : ns.take (j + 2) = ns.take (j + 1) ++ [y]) (hx : y = x) (hml : ((ns.take (j + 1)).map u8Row).length = j + 1)
  (hl : Lst w5 5 1 (.slice (some ⟨q9, 0, none⟩) (j + 1 + 1) cq) ((ns.take (j + 1)).map u8Row ++ [[.int .u8 x]])) (ho : Out (wr.alloc o) w5 (blocks (.slice (some ⟨q, 0, none⟩) (j + 1) c))) (hq : q9 ∈ blocks (.slice (some ⟨q, 0, none⟩) (j + 1) c) ∨ q9 = (wr.alloc o).heap.size) : HdSt w w5 ns (j + 1 + 1) q9 cq := by
 subst hx
 have hkk : ∀ k, k ∈ blocks (.slice (some ⟨q, 0, none⟩) (j + 1) c) → w.heap.size ≤ k := fun k hk => by
  have : q = k := by simpa [Value.ownBlock] using hk
  rw [← this]; exact h.new
 refine ⟨by rw [ht, List.map_append]; exact hl, ?_, (h.since.alloc o).out' ho hkk⟩
 rcases hq with hq | hq
 · exact hkk q9 hq
 · rw [hq]; have := h.since.le; simp; omega
theorem phead (n b : Int) (w : World) (h0 : 0 ≤ n) (hn : n ≤ 1073741823) (h1 : 1 ≤ b) (h2 : b ≤ 4) :
  Calls Tryz.prog 87 #[.int .i64 n, .int .i64 b] w fun e w' => e = .returned (.string ⟨(headB n b).toArray⟩) ∧ Below w.heap.size w w' := by
 have hwrap : IntKind.u8.wrap b = b := by simp [IntKind.wrap, IntKind.bits, IntKind.signed]; omega
 obtain ⟨m, rfl⟩ : ∃ m : Nat, b = m := ⟨b.toNat, by omega⟩
 have hrn := rnd_bounds (m : Int)
 have hc0 : 0 ≤ n % rnd (m : Int) := Int.emod_nonneg _ (by omega)
 have hc1 : n % rnd (m : Int) < rnd (m : Int) := Int.emod_lt_of_pos _ (by omega)
 obtain ⟨c, hc⟩ : ∃ c, n % rnd (m : Int) = c := ⟨_, rfl⟩
 have HCD := Lib.hid hc
 rw [hc] at hc0 hc1
 go_enter Tryz.func87, Tryz.ntmps87
 go_wp2_with fail
 refine (short_any n m h0 h1 h2 _).mono ?_
 rintro e w1 ⟨rfl, rfl⟩
 rw [hc]
 clear hc
 go_wp2_with fail
 go_loopw [5, 7] (fun s5 s7 wr => ∃ (j q cp : Nat), s5 = .slice (some ⟨q, 0, none⟩) (j + 1) cp ∧ s7 = .int .i64 ((m : Int) - 1 - j) ∧ j ≤ m ∧ HdSt w wr (hdZ n m) (j + 1) q cp) (fun _ s7 _ => (intOf s7 + 1).toNat)
 case atStart => exact ⟨0, w.heap.size, 1, rfl, by simp, Nat.zero_le _, ⟨⟨World.ownsRow_lit (base := 0) w #[.int .u8 m] 1 (Nat.zero_le _) (by decide) rfl, by intro e he; obtain ⟨z, _, rfl⟩ := List.mem_map.1 he; exact u8Row_one z⟩, Nat.le_refl _, (by exact Since.alloc (Since.refl _) _)⟩⟩
 case round =>
  obtain ⟨j, q, cp, rfl, rfl, hj, hS⟩ := hrel
  by_cases hlt : j < m
  case neg =>
   obtain rfl : j = m := by omega
   have hm1 : (j : Int) - 1 - (j : Int) = -1 := by omega
   have hln : (hdZ n j).length = j + 1 := by have := hdZ_len (n := n) h1 h2; omega
   have hcv := conv_of (W := wr) (g := q) (c := cp) (ns := hdZ n j) (fun k v hk => by
    rw [List.getElem?_map] at hk
    cases hz : (hdZ n j)[k]? with
    | none => rw [hz] at hk; cases hk
    | some z =>
      rw [hz] at hk
      simp only [Option.map_some, Option.some.injEq] at hk
      subst hk
      have hl := hS.ls
      rw [List.take_of_length_le (by omega)] at hl
      have := hl.cell rfl (i := k) (j := 0) (e := u8Row z) (u := .int .u8 z) (by rw [List.getElem?_map, hz]; rfl) rfl
      simpa using this)
   rw [hln, hdZ_bytes h1 h2] at hcv
   rw [hm1]
   have hs := Lib.hid hS.since
   clear hS hln hm1
   go_wp2_with fail
   go_ret
   exact ⟨by rfl, hs.out⟩
  have hi : (m : Int) - 1 - (j : Int) = ((m - 1 - j : Nat) : Int) := by omega
  rw [hi]
  obtain ⟨i, hi2⟩ : ∃ i, m - 1 - j = i := ⟨_, rfl⟩
  have HI2 := Lib.hid hi2
  rw [hi2]
  have hi4 : i = 0 ∨ i = 1 ∨ i = 2 ∨ i = 3 := by omega
  clear hi hi2
  have HS := Lib.hid hS
  have HML : Hid ((((hdZ n m).take (j + 1)).map u8Row).length = j + 1) := Lib.hid (by have := hdZ_len (n := n) h1 h2; simp; omega)
  have HT := Lib.hid (hdZ_next (j := j) HCD.out (by omega) (by omega) HI2.out hlt)
  clear hS
  rcases hi4 with rfl | rfl | rfl | rfl
  · have HX := Lib.hid (show shB c 0 = c % 256 from rfl)
    go_wp2_with (at_builtin; refine wpList_push rfl _ _ 131 rfl 5 1 1 Tryz.elU8 (.slice (some ⟨q, 0, none⟩) (j + 1) cp) (((hdZ n m).take (j + 1)).map u8Row) rfl (HS.out.ls.alloc _) wr.heap.size 1 [.int .u8 (c % 256)] rfl rfl (u8Row_one _).2 (BlockIs.fresh _ _ _) (by rw [HML.out]; omega) ?_; intro q9 cq w5 hl5 ho5 hq5 hlt5; rw [HML.out] at hl5; (try rw [HML.out]); have HN5 := Lib.hid (HS.out.step (HT.out) HX.out HML.out hl5 ho5 hq5); clear hl5 ho5 hq5 hlt5)
    go_roundw
    case rel => exact ⟨j + 1, q9, cq, rfl, by have := HI2.out; first | (simp; omega) | (congr 1; omega), by omega, HN5.out⟩
    case measure => (simp [intOf]; try omega)
  · have HX := Lib.hid (show shB c 1 = c / 256 % 256 from rfl)
    go_wp2_with (at_builtin; refine wpList_push rfl _ _ 131 rfl 5 1 1 Tryz.elU8 (.slice (some ⟨q, 0, none⟩) (j + 1) cp) (((hdZ n m).take (j + 1)).map u8Row) rfl (HS.out.ls.alloc _) wr.heap.size 1 [.int .u8 (c / 256 % 256)] rfl rfl (u8Row_one _).2 (BlockIs.fresh _ _ _) (by rw [HML.out]; omega) ?_; intro q9 cq w5 hl5 ho5 hq5 hlt5; rw [HML.out] at hl5; (try rw [HML.out]); have HN5 := Lib.hid (HS.out.step (HT.out) HX.out HML.out hl5 ho5 hq5); clear hl5 ho5 hq5 hlt5)
    go_roundw
    case rel => exact ⟨j + 1, q9, cq, rfl, by have := HI2.out; first | (simp; omega) | (congr 1; omega), by omega, HN5.out⟩
    case measure => (simp [intOf]; try omega)
  · have HX := Lib.hid (show shB c 2 = c / 65536 % 256 from rfl)
    go_wp2_with (at_builtin; refine wpList_push rfl _ _ 131 rfl 5 1 1 Tryz.elU8 (.slice (some ⟨q, 0, none⟩) (j + 1) cp) (((hdZ n m).take (j + 1)).map u8Row) rfl (HS.out.ls.alloc _) wr.heap.size 1 [.int .u8 (c / 65536 % 256)] rfl rfl (u8Row_one _).2 (BlockIs.fresh _ _ _) (by rw [HML.out]; omega) ?_; intro q9 cq w5 hl5 ho5 hq5 hlt5; rw [HML.out] at hl5; (try rw [HML.out]); have HN5 := Lib.hid (HS.out.step (HT.out) HX.out HML.out hl5 ho5 hq5); clear hl5 ho5 hq5 hlt5)
    go_roundw
    case rel => exact ⟨j + 1, q9, cq, rfl, by have := HI2.out; first | (simp; omega) | (congr 1; omega), by omega, HN5.out⟩
    case measure => (simp [intOf]; try omega)
  · have HX := Lib.hid (show shB c 3 = c / 16777216 by show c / 16777216 % 256 = _; omega)
    go_wp2_with (at_builtin; refine wpList_push rfl _ _ 131 rfl 5 1 1 Tryz.elU8 (.slice (some ⟨q, 0, none⟩) (j + 1) cp) (((hdZ n m).take (j + 1)).map u8Row) rfl (HS.out.ls.alloc _) wr.heap.size 1 [.int .u8 (c / 16777216)] rfl rfl (u8Row_one _).2 (BlockIs.fresh _ _ _) (by rw [HML.out]; omega) ?_; intro q9 cq w5 hl5 ho5 hq5 hlt5; rw [HML.out] at hl5; (try rw [HML.out]); have HN5 := Lib.hid (HS.out.step (HT.out) HX.out HML.out hl5 ho5 hq5); clear hl5 ho5 hq5 hlt5)
    go_roundw
    case rel => exact ⟨j + 1, q9, cq, rfl, by have := HI2.out; first | (simp; omega) | (congr 1; omega), by omega, HN5.out⟩
    case measure => (simp [intOf]; try omega)
theorem elem_of_frm {L : List FrmV} {i : Nat} (h : i < L.length) : (L.map frmRow)[i]? = some (frmRow L[i]) := by rw [List.getElem?_map, List.getElem?_eq_getElem h]; rfl
theorem Rd.frm {w : World} {A : Option Addr} {n cap : Nat} {L : List FrmV} (h : Rd w 3 (.slice A n cap) (L.map frmRow)) {i : Nat} (hi : i < L.length) : ∃ b off, A = some ⟨b, off, none⟩ ∧ b < w.heap.size ∧ ∀ w', Since w w' → ∀ j (hj : j < L.length), w'.cell? ⟨b, off + j * 3, none⟩ = some (.int .i64 L[j].f.kind) ∧ w'.cell? ⟨b, off + j * 3 + 1, none⟩ = some (.slice L[j].A L[j].f.nums.length L[j].cap) ∧ w'.cell? ⟨b, off + j * 3 + 2, none⟩ = some (.string L[j].f.data) := by
 obtain ⟨A', cap', hv, _, _, hc⟩ := h.shape
 obtain ⟨b, off, hA, hlt, _⟩ := hc (by intro he; have := congrArg List.length he; simp at this; subst this; simp at hi)
 simp only [Value.slice.injEq] at hv
 obtain ⟨rfl, _, _⟩ := hv
 subst hA
 refine ⟨b, off, rfl, hlt, fun w' hs j hj => ?_⟩
 have hh := h.later hs
 exact ⟨hh.at_ (elem_of_frm hj) (j := 0) rfl, by rw [Nat.add_assoc]; exact hh.at_ (elem_of_frm hj) (j := 1) rfl, by rw [Nat.add_assoc]; exact hh.at_ (elem_of_frm hj) (j := 2) rfl⟩
theorem frmsB_take {L : List FrmV} {i : Nat} (h : i < L.length) : frmsB ((L.take (i + 1)).map (·.f)) = frmsB ((L.take i).map (·.f)) ++ frmB L[i].f := by
 rw [List.take_succ_eq_append_getElem h, List.map_append, frmsB_append]
 simp [frmsB]
theorem frmsB_short {M : List Frm} (h : ∀ f ∈ M, frmE f = 0) : (frmsB M).length ≤ 120 * M.length := by
 induction M with
 | nil => simp [frmsB]
 | cons f M ih =>
   have h1 := frmB_len f (h f (by simp))
   have h2 := ih (fun g hg => h g (by simp [hg]))
   have e : frmsB (f :: M) = frmB f ++ frmsB M := rfl
   rw [e, List.length_append, List.length_cons]; omega
theorem pkbytes (x known : Int) (A : Option Addr) (n cap : Nat) (L : List FrmV) (w : World) (hn : L.length = n) (h12 : n ≤ 12) (h : FrmsIn w (.slice A n cap) L) (hE : frmsE (L.map (·.f)) = 0) (hN : NeedOk x known) (hK : KTab w) :
  Calls Tryz.prog 51 #[.int .i64 x, .int .i64 known, .slice A n cap] w fun e w' => e = .returned (.string ⟨(pktB x known (L.map (·.f))).toArray⟩) ∧ Below w.heap.size w w' := by
 have HN := Lib.hid hn
 have H := Lib.hid h
 have HK := Lib.hid hK
 have HEA : Hid (∀ i (hi : i < L.length), frmE L[i].f = 0) := Lib.hid (fun i hi => frmsE_all hE _ (List.mem_map.2 ⟨L[i], List.getElem_mem _, rfl⟩))
 have HSH : Hid (∀ i, i ≤ n → (frmsB ((L.take i).map (·.f))).length ≤ 1440) := Lib.hid (fun i hi => by
  have := frmsB_short (M := (L.take i).map (·.f)) (fun f hf => by
   obtain ⟨p, hp, rfl⟩ := List.mem_map.1 hf
   exact frmsE_all hE _ (List.mem_map.2 ⟨p, List.mem_of_mem_take hp, rfl⟩))
  rw [List.length_map, List.length_take] at this
  omega)
 obtain ⟨⟨n1, n2⟩, k1, k2⟩ := hN
 obtain ⟨b1, b2⟩ := leastN_bounds (x - known)
 have hhl := headB_len (n := x) b1 b2
 have PH := Lib.hid (fun W => phead x (leastN (x - known)) W n1 n2 b1 b2)
 have HPK : Hid (pktB x known (L.map (·.f)) = headB x (leastN (x - known)) ++ frmsB (L.map (·.f))) := Lib.hid rfl
 have HLS := Lib.hid (fun W => least_any x known (by omega) (by omega) (by omega) W)
 generalize headB x (leastN (x - known)) = hd at *
 generalize leastN (x - known) = lst at *
 clear hn h hE hK
 go_enter Tryz.func51, Tryz.ntmps51
 go_wp2_with fail
 refine (HLS.out _).mono ?_
 rintro e w1 ⟨rfl, rfl⟩
 go_wp2_with fail
 refine (PH.out _).mono ?_
 rintro e w1 ⟨rfl, hb1⟩
 have hs1 : Since w w1 := hb1
 clear hb1
 go_wp2_with fail
 go_loopw [7, 17] (fun s7 s17 wr => ∃ i : Nat, s17 = .int .i64 i ∧ i ≤ n ∧ s7 = .string ⟨(hd ++ frmsB ((L.take i).map (·.f))).toArray⟩ ∧ Since w wr) (fun _ s17 _ => n - (intOf s17).toNat)
 case atStart => exact ⟨0, rfl, Nat.zero_le _, by simp [frmsB], hs1⟩
 case round =>
  obtain ⟨i, rfl, hi, rfl, hs⟩ := hrel
  by_cases hlt : i < n
  case neg =>
   obtain rfl : i = n := by omega
   have hf : decide ((i : Int) < (i : Int)) = false := by simp
   have hz : Hid (L.take i = L) := Lib.hid (List.take_of_length_le (by rw [HN.out]; exact Nat.le_refl _))
   go_wp2_with fail
   go_ret
   exact ⟨by rw [HPK.out, hz.out]; rfl, hs⟩
  have hlt' : (i : Int) < (n : Int) := by omega
  have hil : i < L.length := by rw [HN.out]; exact hlt
  obtain ⟨b, off, rfl, hbl, hc⟩ := H.out.rd.frm hil
  obtain ⟨c0, c1, c2⟩ := hc wr hs i hil
  have lb : b < wr.heap.size := Nat.lt_of_lt_of_le hbl hs.le
  have HT := Lib.hid (frmsB_take hil)
  have HPI := Lib.hid (H.out.each L[i] (List.getElem_mem hil))
  have HEI := Lib.hid (HEA.out i hil)
  have hsh := HSH.out (i + 1) (by omega)
  rw [HT.out, List.length_append] at hsh
  clear hc
  generalize L[i] = p at *
  obtain ⟨U, hU⟩ : ∃ U, hd ++ frmsB ((L.take i).map (·.f)) = U := ⟨_, rfl⟩
  have hUl : U.length + (frmB p.f).length ≤ 1445 := by rw [← hU, List.length_append]; omega
  have HU := Lib.hid hU
  rw [hU]
  have hov : U.length + (frmB p.f).length ≤ 9223372036854775807 := by omega
  have FB := Lib.hid (fun W h1 h2 => fbytes p W h1 HEI.out h2)
  unfold FrmV.agg at FB
  clear hU hsh hil
  go_wp2_with fail
  refine (FB.out _ (HPI.out.later (by exact Since.alloc hs _)) (HK.out.later (by exact Since.alloc hs _))).mono ?_
  rintro e w2 ⟨rfl, hb2⟩
  have hs2 : Since w w2 := (by exact Since.later (Since.alloc hs _) hb2)
  clear hb2
  generalize hFB : frmB p.f = Y at *
  go_wp2_with fail
  go_roundw
  case rel => exact ⟨i + 1, by go_num, by omega, by rw [HT.out, ← List.append_assoc, HU.out, bapp], hs2⟩
  case measure => simp [intOf]; omega
end Go.Proofs.YtmfbaijbigodkaaGreatDoor
namespace Go.Proofs.YtmfbaijbigodkaaGreatDoor
set_option linter.unusedVariables false
abbrev Plc := List (Option UInt8)
def Plc.at (M : Plc) (i : Nat) : Option UInt8 := M.getD i none
def Plc.new : Plc := List.replicate 60 none
theorem Plc.new_len : Plc.new.length = 60 := by simp [Plc.new]
theorem Plc.new_at (i : Nat) : Plc.new.at i = none := by
 unfold Plc.at Plc.new List.getD
 rw [List.getElem?_replicate]
 split <;> rfl
theorem Plc.at_set {M : Plc} {i j : Nat} {o : Option UInt8} (h : i < M.length) : Plc.at (M.set i o) j = if i = j then o else M.at j := by
 unfold Plc.at
 simp only [List.getD, List.getElem?_set]
 by_cases hij : i = j
 · subst hij
   simp [h]
 · simp [hij]
def bth (d : List UInt8) (i : Nat) : UInt8 := d.getD i 0
theorem bth_get {d : ByteArray} {i : Nat} (h : i < d.size) : bth d.data.toList i = d[i] := by
 unfold bth
 have h1 : i < d.data.toList.length := by rw [Array.length_toList]; exact h
 simp only [List.getD, List.getElem?_eq_getElem h1, Option.getD_some, Array.getElem_toList]
 rfl
def clashN (M : Plc) (a : Nat) (d : List UInt8) : Nat → Bool
 | 0 => false
 | n + 1 => clashN M a d n || (match M.at (a + n) with | some y => y != bth d n | none => false)
theorem clashN_no {M : Plc} {a : Nat} {d : List UInt8} : ∀ {n : Nat}, (clashN M a d n = false ↔ ∀ i, i < n → ∀ y, M.at (a + i) = some y → y = bth d i)
 | 0 => by simp [clashN]
 | n + 1 => by
   have ih := clashN_no (M := M) (a := a) (d := d) (n := n)
   unfold clashN
   rw [Bool.or_eq_false_iff, ih]
   constructor
   · rintro ⟨h1, h2⟩ i hi y hy
     rcases Nat.lt_succ_iff_lt_or_eq.1 hi with h | h
     · exact h1 i h y hy
     · subst h
       rw [hy] at h2
       simpa using h2
   · intro h
     refine ⟨fun i hi y hy => h i (by omega) y hy, ?_⟩
     cases hm : M.at (a + n) with
     | none => rfl
     | some y => simpa using h n (by omega) y hm
theorem clashN_hit {M : Plc} {a : Nat} {d : List UInt8} {i m : Nat} {y : UInt8} (h : i < m) (hy : M.at (a + i) = some y) (hne : y ≠ bth d i) : clashN M a d m = true := by
 cases hm : clashN M a d m with
 | true => rfl
 | false => exact absurd (clashN_no.1 hm i h y hy) hne
theorem clashN_miss {M : Plc} {a : Nat} {d : List UInt8} {i : Nat} (hc : clashN M a d i = false) (h : ∀ y, M.at (a + i) = some y → y = bth d i) : clashN M a d (i + 1) = false :=
 clashN_no.2 fun j hj y hy => by
  rcases Nat.lt_succ_iff_lt_or_eq.1 hj with h1 | h1
  · exact clashN_no.1 hc j h1 y hy
  · subst h1; exact h y hy
def wrN (M : Plc) (a : Nat) (d : List UInt8) : Nat → Plc
 | 0 => M
 | n + 1 => (wrN M a d n).set (a + n) (some (bth d n))
theorem wrN_len (M : Plc) (a : Nat) (d : List UInt8) : ∀ n, (wrN M a d n).length = M.length
 | 0 => rfl
 | n + 1 => by unfold wrN; rw [List.length_set, wrN_len M a d n]
theorem wrN_at {M : Plc} {a : Nat} {d : List UInt8} {j : Nat} : ∀ {n : Nat}, a + n ≤ M.length → (wrN M a d n).at j = if a ≤ j ∧ j < a + n then some (bth d (j - a)) else M.at j
 | 0, h => by rw [if_neg (by omega)]; rfl
 | n + 1, h => by
   unfold wrN
   rw [Plc.at_set (by rw [wrN_len]; omega)]
   by_cases hj : a + n = j
   · subst hj
     rw [if_pos rfl, if_pos (by omega), Nat.add_sub_cancel_left]
   · rw [if_neg hj, wrN_at (by omega)]
     by_cases h1 : a ≤ j ∧ j < a + n
     · rw [if_pos h1, if_pos (by omega)]
     · rw [if_neg h1, if_neg (by omega)]
def putE (M : Plc) (x : Int) (d : List UInt8) : Int :=
 if x < 0 ∨ 60 < x then 1 else if 60 < x + (d.length : Int) then 4 else if clashN M x.toNat d d.length = true then 7 else 0
def putM (M : Plc) (x : Int) (d : List UInt8) : Plc := if putE M x d = 0 then wrN M x.toNat d d.length else M
theorem putM_len (M : Plc) (x : Int) (d : List UInt8) : (putM M x d).length = M.length := by
 unfold putM
 split
 · exact wrN_len _ _ _ _
 · rfl
def readyF (M : Plc) : Nat → Nat → Nat
 | 0, _ => 0
 | f + 1, t => if (M.at t).isSome then readyF M f (t + 1) + 1 else 0
def readyN (M : Plc) (t : Nat) : Nat := readyF M (60 - t) t
theorem readyF_all {M : Plc} : ∀ {f t n : Nat}, (∀ j, j < n → (M.at (t + j)).isSome = true) → n ≤ f → ((M.at (t + n)).isSome = false ∨ n = f) → readyF M f t = n
 | 0, t, n, h, hn, _ => by have : n = 0 := by omega
                           subst this; rfl
 | f + 1, t, 0, h, hn, he => by
   unfold readyF
   rcases he with he | he
   · rw [Nat.add_zero] at he; simp [he]
   · omega
 | f + 1, t, n + 1, h, hn, he => by
   unfold readyF
   have h0 := h 0 (by omega)
   rw [Nat.add_zero] at h0
   rw [if_pos h0]
   have := readyF_all (M := M) (f := f) (t := t + 1) (n := n) (fun j hj => by have := h (j + 1) (by omega); rw [show t + 1 + j = t + (j + 1) by omega]; exact this) (by omega) (by
    rcases he with he | he
    · left; rw [show t + 1 + n = t + (n + 1) by omega]; exact he
    · right; omega)
   rw [this]
theorem readyN_eq {M : Plc} {t n : Nat} (h : ∀ j, j < n → (M.at (t + j)).isSome = true) (hn : t + n ≤ 60) (he : (M.at (t + n)).isSome = false ∨ t + n = 60) : readyN M t = n :=
 readyF_all h (by omega) (he.elim Or.inl (fun h => Or.inr (by omega)))
theorem readyF_le (M : Plc) : ∀ f t, readyF M f t ≤ f
 | 0, t => Nat.le_refl _
 | f + 1, t => by
   unfold readyF
   split
   · have := readyF_le M f (t + 1); omega
   · omega
theorem readyN_le (M : Plc) (t : Nat) (ht : t ≤ 60) : t + readyN M t ≤ 60 := by
 have := readyF_le M (60 - t) t
 unfold readyN
 omega
theorem readyF_some {M : Plc} : ∀ {f t j : Nat}, j < readyF M f t → (M.at (t + j)).isSome = true
 | 0, t, j, h => by simp [readyF] at h
 | f + 1, t, j, h => by
   unfold readyF at h
   split at h
   · rename_i hs
     cases j with
     | zero => exact hs
     | succ j =>
       have := readyF_some (M := M) (f := f) (t := t + 1) (j := j) (by omega)
       rw [show t + (j + 1) = t + 1 + j by omega]
       exact this
   · omega
theorem readyN_some {M : Plc} {t j : Nat} (h : j < readyN M t) : (M.at (t + j)).isSome = true := readyF_some h
def takeK (M : Plc) (t : Nat) (x : Int) : Nat := min x.toNat (readyN M t)
def cutL (M : Plc) (t : Nat) : Nat → List UInt8
 | 0 => []
 | n + 1 => cutL M t n ++ [(M.at (t + n)).getD 0]
theorem cutL_len (M : Plc) (t : Nat) : ∀ n, (cutL M t n).length = n
 | 0 => rfl
 | n + 1 => by unfold cutL; rw [List.length_append, cutL_len M t n]; rfl
theorem cutL_get {M : Plc} {t j : Nat} : ∀ {n : Nat}, j < n → (cutL M t n)[j]? = some ((M.at (t + j)).getD 0)
 | 0, h => by omega
 | n + 1, h => by
   unfold cutL
   by_cases hj : j < n
   · rw [List.getElem?_append_left (by rw [cutL_len]; exact hj)]; exact cutL_get hj
   · have : j = n := by omega
     subst this
     rw [List.getElem?_append_right (by rw [cutL_len]; exact Nat.le_refl _), cutL_len]
     simp
theorem takeK_le (M : Plc) (t : Nat) (x : Int) (ht : t ≤ 60) : t + takeK M t x ≤ 60 := by
 have := readyN_le M t ht
 unfold takeK
 omega
end Go.Proofs.YtmfbaijbigodkaaGreatDoor
namespace Go.Proofs.YtmfbaijbigodkaaGreatDoor
open Go.ChangeShapes Go.WideShapes Go.ChangeAt Go.RowKit
set_option linter.unusedVariables false
def tC (L C u : Int) : Int := if takeE L u = 0 then maxN C u else C
def rL (W L C R n : Int) : Int := if readE W L C R n = 0 then limitN W L R n else L
def rR (W L C R n : Int) : Int := if readE W L C R n = 0 then R + n else R
def rV (W L C R n : Int) : Int := if readE W L C R n = 0 then limitN W L R n else 0
theorem tC_ok {W L C R : Int} (u : Int) (h : CredOk W L C R) : CredOk W L (tC L C u) R := by
 obtain ⟨w1, w2, r1, k1, k2, l1, l2, lo, hi⟩ := h
 unfold tC
 split
 · rename_i h0
   obtain ⟨h1, h2, h3⟩ := takeE_ok h0
   unfold maxN
   split <;> exact ⟨w1, w2, r1, by omega, by omega, l1, l2, lo, hi⟩
 · exact ⟨w1, w2, r1, k1, k2, l1, l2, lo, hi⟩
theorem ctake_any (g : Nat) (W L C R u : Int) (w : World) (hb : BlockIs w g 143 (credCells W L C R)) :
  Calls Tryz.prog 102 #[.pointer (some ⟨g, 0, none⟩), .int .i64 u] w fun e w' => e = .returned (errV (takeE L u)) ∧ BlockIs w' g 143 (credCells W L (tC L C u) R) ∧ Only w w' g := by
 unfold tC
 by_cases h : takeE L u = 0
 · obtain ⟨h1, h2, h3⟩ := takeE_ok h
   rw [h, if_pos rfl, errV_zero]
   exact ctake_yes g W L C R u h1 h2 h3 w hb
 · rw [if_neg h, errV_pos h]
   refine (ctake_bad g W L C R u h w hb).mono ?_
   rintro e w' ⟨rfl, rfl⟩
   exact ⟨rfl, hb, Only.refl _ _⟩
theorem cread_any (g : Nat) (W L C R n : Int) (ok : CredOk W L C R) (w : World) (hb : BlockIs w g 143 (credCells W L C R)) :
  Calls Tryz.prog 47 #[.pointer (some ⟨g, 0, none⟩), .int .i64 n] w fun e w' => e = .returned (.tuple #[.int .i64 (rV W L C R n), errV (readE W L C R n)]) ∧ BlockIs w' g 143 (credCells W (rL W L C R n) C (rR W L C R n)) ∧ Only w w' g := by
 unfold rL rR rV
 by_cases h : readE W L C R n = 0
 · obtain ⟨h1, h2, h3⟩ := readE_ok h
   rw [h, if_pos rfl, if_pos rfl, if_pos rfl, errV_zero]
   exact cread_yes g W L C R n ok h1 h2 h3 w hb
 · rw [if_neg h, if_neg h, if_neg h, errV_pos h]
   refine (cread_bad g W L C R n ok h w hb).mono ?_
   rintro e w' ⟨rfl, n, rfl⟩
   exact ⟨rfl, hb.drewN _, (Only.refl _ _).drewN _⟩
theorem rtake_any (g : Nat) (W L C R u : Int) (w : World) (hb : BlockIs w g 88 (credCells W L C R)) :
  Calls Tryz.prog 62 #[.pointer (some ⟨g, 0, none⟩), .int .i64 u] w fun e w' => e = .returned (.int .i64 (takeE L u)) ∧ BlockIs w' g 88 (credCells W L (tC L C u) R) ∧ Only w w' g := by
 have c1 : w.cell? ⟨g, 1, none⟩ = some (.int .i64 L) := hb.cell 1
 have c2 : w.cell? ⟨g, 2, none⟩ = some (.int .i64 C) := hb.cell 2
 have f2 : w.frozen? ⟨g, 2, none⟩ = false := hb.free 2
 unfold tC
 by_cases hm : MayBe u
 case neg =>
  have he : takeE L u = 1 := by unfold takeE; rw [if_neg (show ¬ (0 ≤ u ∧ u ≤ 1073741823) from hm)]
  rw [he, if_neg (by decide)]
  clear he
  go_enter Tryz.func62, Tryz.ntmps62
  go_wp2_with (go_at_call 86; refine (rmay_no u hm _).mono ?_; rintro e w' ⟨rfl, rfl⟩)
  go_ret
  exact ⟨rfl, hb, Only.refl _ _⟩
 have h0 := hm.1
 have h1 := hm.2
 by_cases hl : L < u
 · have he : takeE L u = 8 := by unfold takeE; rw [if_pos (show 0 ≤ u ∧ u ≤ 1073741823 from hm), if_pos hl]
   rw [he, if_neg (by decide)]
   clear he hm
   go_enter Tryz.func62, Tryz.ntmps62
   go_wp2_with (go_at_call 86; refine (rmay_yes u h0 h1 _).mono ?_; rintro e w' ⟨rfl, rfl⟩)
   go_ret
   exact ⟨rfl, hb, Only.refl _ _⟩
 have he : takeE L u = 0 := by unfold takeE; rw [if_pos (show 0 ≤ u ∧ u ≤ 1073741823 from hm), if_neg hl]
 have hl' : decide (L < u) = false := by simpa using hl
 rw [he, if_pos rfl]
 clear he hm
 unfold maxN
 by_cases hc : C < u
 · rw [if_pos hc]
   go_enter Tryz.func62, Tryz.ntmps62
   go_wp2_with (go_at_call 86; refine (rmay_yes u h0 h1 _).mono ?_; rintro e w' ⟨rfl, rfl⟩)
   go_ret
   exact ⟨rfl, hb.put 2 _, (Only.refl _ _).put _ _⟩
 · rw [if_neg hc]
   have hc' : decide (C < u) = false := by simpa using hc
   go_enter Tryz.func62, Tryz.ntmps62
   go_wp2_with (go_at_call 86; refine (rmay_yes u h0 h1 _).mono ?_; rintro e w' ⟨rfl, rfl⟩)
   go_ret
   exact ⟨rfl, hb, Only.refl _ _⟩
theorem rgetc_any (g : Nat) (W L C R n : Int) (ok : CredOk W L C R) (w : World) (hb : BlockIs w g 88 (credCells W L C R)) :
  Calls Tryz.prog 45 #[.pointer (some ⟨g, 0, none⟩), .int .i64 n] w fun e w' => e = .returned (.int .i64 (readE W L C R n)) ∧ BlockIs w' g 88 (credCells W (rL W L C R n) C (rR W L C R n)) ∧ Only w w' g := by
 have c0 : w.cell? ⟨g, 0, none⟩ = some (.int .i64 W) := hb.cell 0
 have c1 : w.cell? ⟨g, 1, none⟩ = some (.int .i64 L) := hb.cell 1
 have c2 : w.cell? ⟨g, 2, none⟩ = some (.int .i64 C) := hb.cell 2
 have c3 : w.cell? ⟨g, 3, none⟩ = some (.int .i64 R) := hb.cell 3
 have f1 : ∀ i, w.frozen? ⟨g, i, none⟩ = false := fun i => hb.free i
 obtain ⟨w1, w2, r1, k1, k2, l1, l2, lo, hi⟩ := ok
 unfold rL rR
 by_cases hn : n < 0
 · have he : readE W L C R n = 1 := by unfold readE; rw [if_pos hn]
   rw [he, if_neg (by decide), if_neg (by decide)]
   clear he
   go_enter Tryz.func45, Tryz.ntmps45
   go_wp2
   go_ret
   exact ⟨rfl, hb, Only.refl _ _⟩
 have hn' : decide (n < 0) = false := by simpa using hn
 have s1 : IntKind.i64.wrap (C - R) = C - R := IntWalk.i64_in _ (by omega)
 by_cases hf : C - R < n
 · have he : readE W L C R n = 8 := by unfold readE; rw [if_neg hn, if_pos hf]
   rw [he, if_neg (by decide), if_neg (by decide)]
   clear he
   go_enter Tryz.func45, Tryz.ntmps45
   go_wp2
   go_quiet (fail)
   go_wp2
   go_ret
   exact ⟨rfl, hb.drewN _, (Only.refl _ _).drewN _⟩
 have hf' : decide (C - R < n) = false := by simpa using hf
 have s2 : IntKind.i64.wrap (R + n) = R + n := IntWalk.i64_in _ (by omega)
 have s3 : IntKind.i64.wrap (L - W) = L - W := IntWalk.i64_in _ (by omega)
 have s4 : IntKind.i64.wrap (R + n - (L - W)) = R + n - (L - W) := IntWalk.i64_in _ (by omega)
 have s5 : IntKind.i64.wrap (R + n + W) = R + n + W := IntWalk.i64_in _ (by omega)
 have s6 : W.tdiv 2 = W / 2 := Int.tdiv_eq_ediv_of_nonneg (by omega)
 have s7 : IntKind.i64.wrap (W / 2) = W / 2 := IntWalk.i64_in _ (by omega)
 have h0 : 0 ≤ n := by omega
 by_cases hq : W / 2 < R + n - (L - W)
 · have hl : limitN W L R n = R + n + W := by unfold limitN; rw [if_pos hq]
   by_cases hx : 1073741823 < R + n + W
   · have he : readE W L C R n = 4 := by unfold readE; rw [if_neg hn, if_neg hf, hl, if_pos hx]
     have hm : ¬ MayBe (R + n + W) := by unfold MayBe; omega
     rw [he, if_neg (by decide), if_neg (by decide)]
     clear he hl hn hf
     go_enter Tryz.func45, Tryz.ntmps45
     go_wp2
     go_quiet (fail)
     go_wp2
     go_quiet (fail)
     go_wp2
     go_quiet (fail)
     go_wp2_with (go_at_call 86; refine (rmay_no _ hm _).mono ?_; rintro e w' ⟨rfl, rfl⟩)
     go_ret
     exact ⟨rfl, hb.drewN _, (Only.refl _ _).drewN _⟩
   · have he : readE W L C R n = 0 := by unfold readE; rw [if_neg hn, if_neg hf, hl, if_neg hx]
     rw [he, if_pos rfl, if_pos rfl, hl]
     clear he hl hn hf
     go_enter Tryz.func45, Tryz.ntmps45
     go_wp2
     go_quiet (fail)
     go_wp2
     go_quiet (fail)
     go_wp2
     go_quiet (fail)
     go_wp2_with (go_at_call 86; refine (rmay_yes _ (by omega) (by omega) _).mono ?_; rintro e w' ⟨rfl, rfl⟩)
     go_ret
     exact ⟨rfl, (hb.drewN _).put 3 _ |>.put 1 _, (((Only.refl _ _).drewN _).put _ _).put _ _⟩
 · have hl : limitN W L R n = L := by unfold limitN; rw [if_neg hq]
   have hq' : decide (W / 2 < R + n - (L - W)) = false := by simpa using hq
   have he : readE W L C R n = 0 := by unfold readE; rw [if_neg hn, if_neg hf, hl, if_neg (by omega)]
   rw [he, if_pos rfl, if_pos rfl, hl]
   clear he hl hn hf
   go_enter Tryz.func45, Tryz.ntmps45
   go_wp2
   go_quiet (fail)
   go_wp2
   go_quiet (fail)
   go_wp2_with (go_at_call 86; refine (rmay_yes _ (by omega) (by omega) _).mono ?_; rintro e w' ⟨rfl, rfl⟩)
   go_ret
   exact ⟨rfl, (hb.drewN _).put 3 _ |>.put 1 _, (((Only.refl _ _).drewN _).put _ _).put _ _⟩
end Go.Proofs.YtmfbaijbigodkaaGreatDoor
namespace Go.Proofs.YtmfbaijbigodkaaGreatDoor
open Go.Shelf
def laysSort_ren : Go.Shelf.Ren := ⟨fun | 6 => 135 | 14 => 156 | 15 => 157 | 20 => 169 | 21 => 170 | 22 => 171 | 23 => 172 | 24 => 173 | 25 => 174 | 26 => 175 | 27 => 176 | 28 => 177 | 29 => 178 | 46 => 185 | 47 => 186 | 48 => 187 | 49 => 188 | 50 => 189 | 57 => 198 | n => n, fun | 0 => 0 | 3 => 3 | 4 => 4 | 5 => 5 | 9 => 9 | 22 => 44 | 24 => 101 | 25 => 202 | 39 => 193 | 45 => 249 | 46 => 250 | 50 => 139 | 53 => 256 | 55 => 258 | 66 => 262 | 70 => 266 | 76 => 273 | 77 => 274 | n => n, fun | n => n⟩
theorem laysSort : Go.Proofs.SlLaysF0.n6 Tryz.prog laysSort_ren := {
 mixed := by kernel_rfl
 f6 := ⟨Tryz.f135.name, by decide, Tryz.func135.trans (congrArg some (by kernel_rfl))⟩
 f14 := ⟨Tryz.f156.name, by decide, Tryz.func156.trans (congrArg some (by kernel_rfl))⟩
 f15 := Tryz.func157.trans (congrArg some (by kernel_rfl))
 f20 := ⟨Tryz.f169.name, by decide, Tryz.func169.trans (congrArg some (by kernel_rfl))⟩
 f21 := ⟨Tryz.f170.name, by decide, Tryz.func170.trans (congrArg some (by kernel_rfl))⟩
 f22 := ⟨Tryz.f171.name, by decide, Tryz.func171.trans (congrArg some (by kernel_rfl))⟩
 f23 := ⟨Tryz.f172.name, by decide, Tryz.func172.trans (congrArg some (by kernel_rfl))⟩
 f24 := ⟨Tryz.f173.name, by decide, Tryz.func173.trans (congrArg some (by kernel_rfl))⟩
 f25 := ⟨Tryz.f174.name, by decide, Tryz.func174.trans (congrArg some (by kernel_rfl))⟩
 f26 := ⟨Tryz.f175.name, by decide, Tryz.func175.trans (congrArg some (by kernel_rfl))⟩
 f27 := ⟨Tryz.f176.name, by decide, Tryz.func176.trans (congrArg some (by kernel_rfl))⟩
 f28 := Tryz.func177.trans (congrArg some (by kernel_rfl))
 f29 := Tryz.func178.trans (congrArg some (by kernel_rfl))
 f46 := ⟨Tryz.f185.name, by decide, Tryz.func185.trans (congrArg some (by kernel_rfl))⟩
 f47 := Tryz.func186.trans (congrArg some (by kernel_rfl))
 f48 := Tryz.func187.trans (congrArg some (by kernel_rfl))
 f49 := ⟨Tryz.f188.name, by decide, Tryz.func188.trans (congrArg some (by kernel_rfl))⟩
 f50 := ⟨Tryz.f189.name, by decide, Tryz.func189.trans (congrArg some (by kernel_rfl))⟩
 f57 := ⟨Tryz.f198.name, by decide, Tryz.func198.trans (congrArg some (by kernel_rfl))⟩
 t0 := Tryz.underlying0
 a0 := Tryz.isAgg0
 z0 := Tryz.sizeOf0
 v0 := Tryz.zeroValue0
 t3 := Tryz.underlying3
 a3 := Tryz.isAgg3
 z3 := Tryz.sizeOf3
 v3 := Tryz.zeroValue3
 t4 := Tryz.underlying4
 a4 := Tryz.isAgg4
 z4 := Tryz.sizeOf4
 v4 := Tryz.zeroValue4
 t5 := Tryz.underlying5
 a5 := Tryz.isAgg5
 z5 := Tryz.sizeOf5
 v5 := Tryz.zeroValue5
 t9 := Tryz.underlying9
 a9 := Tryz.isAgg9
 z9 := Tryz.sizeOf9
 v9 := Tryz.zeroValue9
 t22 := Tryz.underlying44
 a22 := Tryz.isAgg44
 z22 := Tryz.sizeOf44
 v22 := Tryz.zeroValue44
 t25 := Tryz.underlying202
 a25 := Tryz.isAgg202
 z25 := Tryz.sizeOf202
 v25 := Tryz.zeroValue202
 t39 := Tryz.underlying193
 a39 := Tryz.isAgg193
 z39 := Tryz.sizeOf193
 v39 := Tryz.zeroValue193
 t45 := Tryz.underlying249
 a45 := Tryz.isAgg249
 z45 := Tryz.sizeOf249
 v45 := Tryz.zeroValue249
 t46 := Tryz.underlying250
 a46 := Tryz.isAgg250
 z46 := Tryz.sizeOf250
 v46 := Tryz.zeroValue250
 t50 := Tryz.underlying139
 a50 := Tryz.isAgg139
 z50 := Tryz.sizeOf139
 v50 := Tryz.zeroValue139
 t53 := Tryz.underlying256
 a53 := Tryz.isAgg256
 z53 := Tryz.sizeOf256
 v53 := Tryz.zeroValue256
 t55 := Tryz.underlying258
 a55 := Tryz.isAgg258
 z55 := Tryz.sizeOf258
 v55 := Tryz.zeroValue258
 t66 := Tryz.underlying262
 a66 := Tryz.isAgg262
 z66 := Tryz.sizeOf262
 v66 := Tryz.zeroValue262
 t70 := Tryz.underlying266
 a70 := Tryz.isAgg266
 z70 := Tryz.sizeOf266
 v70 := Tryz.zeroValue266
 t76 := Tryz.underlying273
 a76 := Tryz.isAgg273
 z76 := Tryz.sizeOf273
 v76 := Tryz.zeroValue273
 t77 := Tryz.underlying274
 a77 := Tryz.isAgg274
 z77 := Tryz.sizeOf274
 v77 := Tryz.zeroValue274
}
end Go.Proofs.YtmfbaijbigodkaaGreatDoor
namespace Go.Proofs.YtmfbaijbigodkaaGreatDoor
open Go.ChangeShapes Go.WideShapes Go.ChangeAt Go.RowKit Go.Sort
set_option linter.unusedVariables false
abbrev RngB : Type := {r : Rng // okH r}
instance : Inhabited RngB := ⟨⟨⟨0, 0⟩, Int.le_refl 0, by show (0 : Int) ≤ 1073741823; decide⟩⟩
def encB (x : RngB) : List Value := rngRow x.1
def cfB (x y : RngB) : Int := y.1.hi - x.1.hi
theorem ltB (x y : RngB) : ltOf cfB x y = decide (y.1.hi < x.1.hi) := by
 unfold ltOf cfB
 by_cases h : y.1.hi < x.1.hi
 · rw [decide_eq_true h, decide_eq_true (by omega)]
 · rw [decide_eq_false h, decide_eq_false (by omega)]
theorem swoB : SWO (ltOf cfB) where
 irrefl x := by rw [ltB]; simp
 trans x y z h1 h2 := by rw [ltB] at *; simp at *; omega
 ntrans x y z h1 h2 := by rw [ltB] at *; simp at *; omega
theorem cmpB (x y : RngB) (W : World) : Calls Tryz.prog 136 #[.agg (encB x).toArray, .agg (encB y).toArray] W fun e w' => e = .returned (.int .i64 (cfB x y)) ∧ ∃ q os', w' = grow (W.drewN q) os' := by
 obtain ⟨⟨a, b⟩, h1, h2⟩ := x
 obtain ⟨⟨c, d⟩, h3, h4⟩ := y
 simp only at h1 h2 h3 h4
 show Calls Tryz.prog 136 #[.agg #[.int .i64 a, .int .i64 b], .agg #[.int .i64 c, .int .i64 d]] W fun e w' => e = .returned (.int .i64 (d - b)) ∧ ∃ q os', w' = grow (W.drewN q) os'
 go_enter Tryz.func136, Tryz.ntmps136
 go_wp2
 go_ret
 exact ⟨rfl, 0, _, by rw [alloc_eq_grow, alloc_eq_grow, grow_grow]; rfl⟩
theorem flat_at (M : List RngB) {j : Nat} (hj : j < M.length * 2) : (flat (M.map encB))[j]? = some (flatK encB 2 M.toArray)[j]! := by
 have hi : j / 2 < M.length := by omega
 have hm : j % 2 < 2 := Nat.mod_lt _ (by decide)
 rw [get_flatK encB 2 M.toArray j (by simpa using hj)]
 have h1 : (M.map encB)[j / 2]? = some (encB M[j / 2]) := by simp [hi]
 have h2 : (encB M[j / 2])[j % 2]? = some (encB M[j / 2])[j % 2]! := by
  have : j % 2 < (encB M[j / 2]).length := hm
  rw [List.getElem?_eq_getElem this, getElem!_pos (encB M[j / 2]) (j % 2) this]
 have h3 := Lst.flat_get (size := 2) (fun e he => by obtain ⟨x, _, rfl⟩ := List.mem_map.1 he; rfl) h1 h2
 rw [show j / 2 * 2 + j % 2 = j from by omega] at h3
 rw [h3]
 simp [hi]
theorem holdsB {w : World} {E g cap : Nat} {M : List RngB} {n : Nat} (h : Lst w E 2 (.slice (some ⟨g, 0, none⟩) n cap) (M.map encB)) (hn : M.length = n) : HoldsK encB 2 w g 0 M.toArray := by
 intro j hj
 have hj' : j < M.length * 2 := by simpa using hj
 have h1 := h.own.cells (g := g) rfl j _ (flat_at M hj')
 have hadd : (⟨g, 0, none⟩ : Addr).add j = ⟨g, 0 + j, none⟩ := by unfold Addr.add; split <;> simp_all
 rw [hadd] at h1
 refine ⟨h1, ?_⟩
 rcases h.own.2 with ⟨h0, _⟩ | ⟨g', cap', cur, hve, hb, hg, _⟩
 · cases h0
 · simp only [Value.slice.injEq, Option.some.injEq, Addr.mk.injEq, and_true] at hve
   obtain ⟨rfl, _, rfl⟩ := hve
   simp [World.frozen?, hg]
theorem heapB {w : World} {g m : Nat} {os : Array Obj} {cur : Array Value} {e : TypeId} {fr : Nat × Nat} (d : Array RngB) (hb : w.heap[g]? = some (.cells cur e fr)) :
  (sortWorldK encB 2 w g 0 m d os).heap[g]? = some (.cells (putCells id 0 (flatK encB 2 d) cur) e fr) := by
 have hg : g < w.heap.size := (Array.getElem?_eq_some_iff.1 hb).1
 unfold sortWorldK putRowK
 rw [heap_grow_old _ _ (by simpa using hg)]
 simp [putRow, mapBlock, Sort.ahead, Array.getElem?_modify, hb, onCells]
theorem outB (w : World) (g m : Nat) (d : Array RngB) (os : Array Obj) : Out w (sortWorldK encB 2 w g 0 m d os) [g] := by
 refine ⟨rfl, rfl, rfl, by simp [sortWorldK, putRowK, Sort.ahead], fun k hk hne => ?_⟩
 unfold sortWorldK putRowK
 rw [heap_grow_old _ _ (by simpa using hk)]
 have : g ≠ k := fun e => hne (by simp [e])
 simp [putRow, mapBlock, Sort.ahead, Array.getElem?_modify, this]
theorem lstB {w : World} {E g cap : Nat} {M N : List RngB} {n m : Nat} {os : Array Obj} (h : Lst w E 2 (.slice (some ⟨g, 0, none⟩) n cap) (M.map encB)) (hn : M.length = n) (hN : N.length = n) : Lst (sortWorldK encB 2 w g 0 m N.toArray os) E 2 (.slice (some ⟨g, 0, none⟩) n cap) (N.map encB) := by
 have hr : ∀ e ∈ N.map encB, e.length = 2 := fun e he => by obtain ⟨x, _, rfl⟩ := List.mem_map.1 he; rfl
 rcases h.own.2 with ⟨h0, _⟩ | ⟨g', cap', cur, hve, hb, hg, h1, h2, h3, h4⟩
 · cases h0
 simp only [Value.slice.injEq, Option.some.injEq, Addr.mk.injEq, and_true] at hve
 obtain ⟨rfl, _, rfl⟩ := hve
 refine ⟨⟨flat_length hr, Or.inr ⟨g, cap, _, by rw [List.length_map, hN], hb, heapB _ hg, by simpa [hN, hn] using h1, h2, by simpa [putCells] using h3, ?_⟩⟩, fun e he => by obtain ⟨x, _, rfl⟩ := List.mem_map.1 he; exact rngRow_one x.1⟩
 have hsz : n * 2 ≤ cur.size := by rw [h3]; have : n ≤ cap := by simpa [hn] using h1
                                   omega
 rw [List.length_map, hN]
 apply List.ext_getElem?
 intro j
 by_cases hj : j < n * 2
 · rw [List.getElem?_take_of_lt hj, flat_at N (by rw [hN]; exact hj), Array.getElem?_toList]
   simp [putCells, hN, hj, show j < cur.size by omega]
 · rw [List.getElem?_take_eq_none (by omega), List.getElem?_eq_none (by rw [flat_length hr]; simp; omega)]
theorem rsort (g n cap : Nat) (L : List Rng) (w : World) (hn : L.length = n) (hL : ∀ r ∈ L, okH r) (h : Lst w 101 2 (.slice (some ⟨g, 0, none⟩) n cap) (L.map rngRow)) (hm : n ≤ 1000000) :
  Calls Tryz.prog 135 #[.slice (some ⟨g, 0, none⟩) n cap, .func (Fn.func 136) #[] #[]] w fun e w' => e = .returned (.tuple #[]) ∧ ∃ L' : List Rng, L'.Perm L ∧ L'.Pairwise (fun a b => b.hi ≤ a.hi) ∧ Lst w' 101 2 (.slice (some ⟨g, 0, none⟩) n cap) (L'.map rngRow) ∧ Out w w' [g] := by
 obtain ⟨M, rfl⟩ : ∃ M : List RngB, L = M.map (·.1) := ⟨L.attachWith _ hL, by simp⟩
 have hnm : M.length = n := by simpa using hn
 have hl : Lst w 101 2 (.slice (some ⟨g, 0, none⟩) n cap) (M.map encB) := by
  have : (M.map (·.1)).map rngRow = M.map encB := by rw [List.map_map]; rfl
  rw [← this]; exact h
 have eg : ∀ args w, (callFunc 136 args).run Tryz.prog w = .ok (.enter 136 args) w := enters_of Tryz.func136 (by kernel_rfl) rfl
 have hg : g < w.heap.size := hl.lt g (by simp [Value.ownBlock])
 have hcon := AnyQ.slices_SortFunc laysSort 2 Tryz.isAgg101 Tryz.sizeOf101 encB (fun _ => rfl) (fun x v hv => (rngRow_one x.1).2 v hv) cfB swoB 136 #[] g 0 cap M.toArray w eg (fun _ _ _ _ x y => cmpB x y _) (holdsB hl hnm) hg (by simp; omega)
 rw [show M.toArray.size = n from by simpa using hnm] at hcon
 refine Calls.mono (P := Tryz.prog) hcon ?_
 rintro e w' ⟨rfl, d', m, os, ⟨p1, _, p3⟩, hs, rfl⟩
 have hd : d'.toList.length = n := by rw [Array.length_toList, p1]; simpa using hnm
 refine ⟨rfl, d'.toList.map (·.1), ?_, ?_, ?_, outB _ _ _ _ _⟩
 · apply List.Perm.map
   have e1 : (d'.extract 0 n).toList = d'.toList := by rw [Array.extract_eq_self_of_le (by rw [p1]; simp; omega)]
   have e2 : (M.toArray.extract 0 n).toList = M := by rw [Array.extract_eq_self_of_le (by simp; omega)]
   rw [e1, e2] at p3
   exact p3
 · rw [List.pairwise_map, List.pairwise_iff_getElem]
   intro i j hi hj hij
   have := hs i j (Nat.zero_le _) hij (by omega)
   rw [ltB] at this
   have hi' : i < d'.size := by simpa using hi
   have hj' : j < d'.size := by simpa using hj
   rw [getElem!_pos d' _ hi', getElem!_pos d' _ hj'] at this
   simp only [Array.getElem_toList]
   simpa using this
 · have := lstB (N := d'.toList) (m := m) (os := os) hl hnm hd
   rw [List.map_map]
   exact this
end Go.Proofs.YtmfbaijbigodkaaGreatDoor
namespace Go.Proofs.YtmfbaijbigodkaaGreatDoor
open Go.ChangeShapes Go.WideShapes Go.ChangeAt Go.RowKit
set_option linter.unusedVariables false
def jinto (O : List Rng) (r : Rng) : Bool := decide (0 < O.length) && decide ((rat O (O.length - 1)).lo ≤ r.hi + 1)
def jstep (O : List Rng) (r : Rng) : List Rng := if jinto O r = true then O.set (O.length - 1) ⟨min (rat O (O.length - 1)).lo r.lo, (rat O (O.length - 1)).hi⟩ else O ++ [r]
def joinL (L : List Rng) : List Rng := L.foldl jstep []
theorem joinL_succ {L : List Rng} {i : Nat} (h : i < L.length) : joinL (L.take (i + 1)) = jstep (joinL (L.take i)) (rat L i) := by
 unfold joinL
 rw [List.take_add_one, List.foldl_append, rat_get h]
 simp [List.getElem?_eq_getElem h]
theorem jstep_len (O : List Rng) (r : Rng) : (jstep O r).length ≤ O.length + 1 := by
 unfold jstep
 split <;> simp
theorem joinL_len (L : List Rng) : ∀ i, (joinL (L.take i)).length ≤ i
 | 0 => by simp [joinL]
 | i + 1 => by
   by_cases h : i < L.length
   · rw [joinL_succ h]
     have := jstep_len (joinL (L.take i)) (rat L i)
     have := joinL_len L i
     omega
   · have h1 : L.take (i + 1) = L.take i := by rw [List.take_of_length_le (by omega), List.take_of_length_le (by omega)]
     have := joinL_len L i
     rw [h1]; omega
theorem Lst.setc {w : World} {E k g n cap : Nat} {es : List (List Value)} (h : Lst w E k (.slice (some ⟨g, 0, none⟩) n cap) es) {i j : Nat} {e : List Value} (hi : es[i]? = some e) (hj : j < k) {u : Value} (h1 : u.oneCell' = true) :
  Lst (w.setCell ⟨g, i * k + j, none⟩ u) E k (.slice (some ⟨g, 0, none⟩) n cap) (es.set i (e.set j u)) := by
 have hr : ∀ e ∈ es, e.length = k := fun e he => (h.rows e he).1
 have hil : i < es.length := (List.getElem?_eq_some_iff.1 hi).1
 have hee : es[i] = e := (List.getElem?_eq_some_iff.1 hi).2
 have hel : e.length = k := by rw [← hee]; exact hr _ (List.getElem_mem _)
 have hr2 : ∀ x ∈ es.set i (e.set j u), x.length = k := fun x hx => by
  rcases List.mem_or_eq_of_mem_set hx with hx | hx
  · exact hr x hx
  · rw [hx, List.length_set]; exact hel
 have hfl : (flat es).set (i * k + j) u = flat (es.set i (e.set j u)) := by
  have hsplit : es = es.take i ++ e :: es.drop (i + 1) := by
   rw [← hee]; simp
  have hset : es.set i (e.set j u) = es.take i ++ (e.set j u) :: es.drop (i + 1) := by
   rw [List.set_eq_take_append_cons_drop, if_pos hil]
  have hlt : (flat (es.take i)).length = i * k := by
   rw [flat_length (fun x hx => hr x (List.mem_of_mem_take hx)), List.length_take]
   congr 1
   omega
  rw [hset]
  conv => lhs; rw [hsplit]
  simp only [flat, List.flatten_append, List.flatten_cons]
  simp only [flat] at hlt
  rw [List.set_append_right _ _ (by rw [hlt]; omega), hlt, List.set_append_left _ _ (by omega), show i * k + j - i * k = j from by omega]
 refine ⟨⟨flat_length hr2, ?_⟩, fun x hx => ?_⟩
 · rcases h.own.2 with ⟨h0, _⟩ | ⟨g', cap', cur, hv, hb, hg, hh1, h2, h3, h4⟩
   · cases h0
   · simp only [Value.slice.injEq, Option.some.injEq, Addr.mk.injEq, and_true] at hv
     obtain ⟨rfl, rfl, rfl⟩ := hv
     refine Or.inr ⟨g, cap, cur.setIfInBounds (i * k + j) u, by rw [List.length_set], hb, BlockIs.put hg _ u, by rw [List.length_set]; exact hh1, h2, by simpa using h3, ?_⟩
     rw [Array.toList_setIfInBounds, List.take_set, List.length_set, h4, hfl]
 · rcases List.mem_or_eq_of_mem_set hx with hx | hx
   · exact h.rows x hx
   · rw [hx, List.length_set]
     refine ⟨hel, fun v hv => ?_⟩
     rcases List.mem_or_eq_of_mem_set hv with hv | hv
     · exact (h.rows e (by rw [← hee]; exact List.getElem_mem _)).2 v hv
     · rw [hv]; exact h1
theorem rclone (A : Option Addr) (n cap : Nat) (L : List Rng) (w : World) (hn : L.length = n) (hm : n ≤ 1000000) (h : Rd w 2 (.slice A n cap) (L.map rngRow)) :
  Calls Tryz.prog 66 #[.slice A n cap] w fun e w' => ∃ A' cap', e = .returned (.slice A' n cap') ∧ Lst w' 101 2 (.slice A' n cap') (L.map rngRow) ∧ Below w.heap.size w w' ∧ ∀ k, k ∈ blocks (.slice A' 0 0) → w.heap.size ≤ k := by
 have hml : (L.map rngRow).length = n := by rw [List.length_map]; exact hn
 have HML := Lib.hid hml
 have H := Lib.hid h
 have hnil := @Lib.run_eql_slice_nil
 obtain ⟨A0, cap0, hv, hz1, hz2, hc⟩ := h.shape
 simp only [Value.slice.injEq] at hv
 obtain ⟨rfl, hz0, rfl⟩ := hv
 clear hz0 hz1 hz2
 cases A with
 | none =>
   have hn0 : n = 0 := by
    rcases Nat.eq_zero_or_pos n with h0 | h0
    · exact h0
    · obtain ⟨b, off, he, _⟩ := hc (by intro he; rw [he] at hml; simp at hml; omega)
      cases he
   subst hn0
   have hL : L = [] := List.length_eq_zero_iff.1 hn
   subst hL
   clear h hc hml hn
   go_enter Tryz.func66, Tryz.ntmps66
   go_wp2
   go_ret
   exact ⟨none, 0, rfl, Lst.nil _ _ _, Below.refl _ _, by simp [Value.ownBlock]⟩
 | some ad =>
   have hnews : ∀ j u, (flat (L.map rngRow))[j]? = some u → (w.alloc (.cells #[] 101)).cell? (ad.add j) = some u := fun j u hu => by
    have hne : L.map rngRow ≠ [] := by intro he; rw [he] at hu; simp [flat] at hu
    obtain ⟨b, off, he, hlt, hcc⟩ := hc hne
    cases he
    have hadd : (⟨b, off, none⟩ : Addr).add j = ⟨b, off + j, none⟩ := by unfold Addr.add; split <;> simp_all
    rw [hadd]
    exact ((Since.refl w).alloc _).cell hlt (hcc j u hu)
   have HNW := Lib.hid hnews
   clear h hc hml hnews
   go_enter Tryz.func66, Tryz.ntmps66
   go_wp2_with (at_builtin; refine wpList_cat rfl _ _ 44 rfl 101 2 16 Tryz.elRange (.slice (some ⟨w.heap.size, 0, none⟩) 0 0) [] rfl (Lst.empty w _ 2) ad n cap (L.map rngRow) rfl HML.out H.out.rows HNW.out (by rw [HML.out]; simp; omega) ?_; intro A1 cap1 w1 hl1 ho1 hk1)
   simp only [List.length_nil, Nat.zero_add, List.nil_append] at hl1 ⊢
   go_ret
   refine ⟨A1, cap1, rfl, hl1, ?_, fun k hk => ?_⟩
   · exact ho1.below ((Below.refl _ _).alloc (Nat.le_refl _) _) (by simp) (by simp [Value.ownBlock])
   · rcases hk1 k (blocks_any A1 _ _ _ _ ▸ hk) with h1 | h1
     · have : w.heap.size = k := by simpa [Value.ownBlock] using h1
       omega
     · rw [h1]; simp
theorem rjoined (A : Option Addr) (n cap : Nat) (L : List Rng) (w : World) (hn : L.length = n) (h0 : 0 < n) (hm : n ≤ 100) (hL : ∀ r ∈ L, okN r) (h : Rd w 2 (.slice A n cap) (L.map rngRow)) :
  Calls Tryz.prog 106 #[.slice A n cap] w fun e w' => ∃ L' A' cap', L'.Perm L ∧ L'.Pairwise (fun a b => b.hi ≤ a.hi) ∧ e = .returned (.slice A' (joinL L').length cap') ∧ Lst w' 101 2 (.slice A' (joinL L').length cap') ((joinL L').map rngRow) ∧ Below w.heap.size w w' ∧ ∀ k, k ∈ blocks (.slice A' 0 0) → w.heap.size ≤ k := by
 have H := Lib.hid h
 have HN := Lib.hid hn
 have HOK := Lib.hid hL
 clear h hn hL
 go_enter Tryz.func106, Tryz.ntmps106
 go_wp2_with (first | (go_at_call 66; refine (rclone A n cap L _ HN.out (by omega) H.out).mono ?_; rintro e w1 ⟨A1, c1, rfl, hl1, hb1, hk1⟩; obtain ⟨g, rfl⟩ : ∃ g, A1 = some ⟨g, 0, none⟩ := (by obtain ⟨A2, c2, hv, _, _, hA⟩ := hl1.shape; simp only [Value.slice.injEq] at hv; obtain ⟨rfl, h2, rfl⟩ := hv; rcases hA with ⟨_, h3, _⟩ | ⟨g, rfl⟩; (rw [h3] at h2; simp at h2; omega); exact ⟨g, rfl⟩); have HL1 := Lib.hid hl1; have HK1 := Lib.hid (hk1 g (by simp [Value.ownBlock])); clear hl1 hk1) | (go_at_call 135; refine (rsort g n c1 L _ HN.out (fun r hr => (HOK.out r hr).2) HL1.out (by omega)).mono ?_; rintro e w2 ⟨rfl, L', hp, hsd, hl2, ho2⟩; have HS2 := Lib.hid (show Since w w2 from ho2.below hb1 hb1.size (by intro k hk; rw [List.mem_singleton.1 hk]; exact HK1.out)); have HL2 := Lib.hid hl2; have HP := Lib.hid hp; have HSD := Lib.hid hsd; clear hl2 ho2 hp hsd))
 have hn' : L'.length = n := by rw [HP.out.length_eq, HN.out]
 have HN' := Lib.hid hn'
 clear hn' hb1
 go_loopw [3, 5, 6, 13] (fun s3 s5 s6 s13 wr => ∃ (i m : Nat) (Ao : Option Addr) (co : Nat), s13 = .int .i64 i ∧ i ≤ n ∧ s3 = .slice Ao m co ∧ Hid (m = (joinL (L'.take i)).length) ∧ Lst wr 101 2 (.slice Ao m co) ((joinL (L'.take i)).map rngRow) ∧ (∀ k, k ∈ blocks (.slice Ao 0 0) → w2.heap.size ≤ k) ∧ Since w2 wr) (fun _ _ _ s13 _ => n - (intOf s13).toNat)
 case atStart => exact ⟨0, 0, none, 0, rfl, Nat.zero_le _, rfl, Lib.hid rfl, Lst.nil _ _ 2, by simp [Value.ownBlock], Since.refl _⟩
 case round =>
  obtain ⟨i, m, Ao, co, rfl, hi, rfl, hmm, hlo, hfar, hs⟩ := hrel
  have HLO := Lib.hid hlo
  have HFAR := Lib.hid hfar
  clear hlo hfar
  have hmi := joinL_len L' i
  by_cases hlt : i < n
  case neg =>
   obtain rfl : i = n := by omega
   have e1 : L'.take i = L' := by rw [List.take_of_length_le (by rw [HN'.out]; exact Nat.le_refl _)]
   have hf : decide ((i : Int) < (i : Int)) = false := by simp
   clear hmi
   go_wp2_with fail
   go_ret
   have h2 := hmm.out
   have h3 := HLO.out
   rw [e1] at h2 h3
   rw [h2] at h3 ⊢
   exact ⟨L', Ao, co, HP.out, HSD.out, rfl, h3, HS2.out.later hs, fun k hk => Nat.le_trans HS2.out.le (HFAR.out k hk)⟩
  have hlt' : (i : Int) < (n : Int) := by omega
  have hiL : i < L'.length := by rw [HN'.out]; exact hlt
  have hl2 := HL2.out.later hs
  have hst := joinL_succ hiL
  have c0 : wr.cell? ⟨g, i * 2, none⟩ = some (.int .i64 (rat L' i).lo) := by rw [rat_get hiL]; exact hl2.cell rfl (elem_of_rng hiL) (j := 0) rfl
  have c1 : wr.cell? ⟨g, i * 2 + 1, none⟩ = some (.int .i64 (rat L' i).hi) := by rw [rat_get hiL]; exact hl2.cell rfl (elem_of_rng hiL) (j := 1) rfl
  have hok : okN (rat L' i) := by rw [rat_get hiL]; exact HOK.out _ (HP.out.mem_iff.1 (List.getElem_mem _))
  have lg : g < wr.heap.size := hl2.lt g (by simp [Value.ownBlock])
  generalize rat L' i = r at *
  obtain ⟨lo, hi2⟩ := r
  obtain ⟨⟨b1, b2⟩, b3, b4⟩ := hok
  simp only at c0 c1 b1 b2 b3 b4
  have HST := Lib.hid hst
  clear hst hl2
  generalize joinL (L'.take i) = O at *
  have hml : (O.map rngRow).length = m := by rw [List.length_map]; exact hmm.out.symm
  have HML := Lib.hid hml
  clear hml
  have hpush : jinto O ⟨lo, hi2⟩ = false → joinL (L'.take (i + 1)) = O ++ [⟨lo, hi2⟩] := fun h => by rw [HST.out, jstep, h]; rfl
  have HPU := Lib.hid hpush
  clear hpush
  have HFR : Hid (∀ X : World, X.heap.size = wr.heap.size + 1 → BlockIs (X.alloc (.cells #[.int .i64 lo, .int .i64 hi2] 101)) (wr.heap.size + 1) 101 #[.int .i64 lo, .int .i64 hi2]) := Lib.hid (fun X h => h ▸ BlockIs.fresh X _ _)
  by_cases hm0 : m = 0
  · subst hm0
    have HN1 := Lib.hid (HPU.out (by unfold jinto; rw [← hmm.out]; rfl))
    go_wp2_with fail
    go_quiet (fail)
    go_wp2_with (at_builtin; refine wpList_push rfl _ _ 44 rfl 101 2 16 Tryz.elRange (.slice Ao 0 co) (O.map rngRow) rfl ?_ (wr.heap.size + 1) 1 [.int .i64 lo, .int .i64 hi2] rfl rfl (rngRow_one ⟨lo, hi2⟩).2 ?_ ?_ ?_; (exact ((HLO.out.alloc _).drewN _).alloc _); (exact HFR.out _ (by simp)); (rw [HML.out]; omega); intro qn cn w3 hl3 ho3 hq3 hlt3)
    have hsn : Since w2 w3 := ((hs.alloc _).drewN _ |>.alloc _).out' ho3 (fun k hk => HFAR.out k (blocks_any Ao _ _ _ _ ▸ hk))
    have hfar1 : ∀ k, k ∈ blocks (.slice (some ⟨qn, 0, none⟩) 0 0) → w2.heap.size ≤ k := by
     intro k hk
     have hkq : qn = k := by simpa [Value.ownBlock] using hk
     rw [← hkq]
     rcases hq3 with h1 | h1
     · exact HFAR.out _ (blocks_any Ao _ _ _ _ ▸ h1)
     · have := hs.le; simp at h1; omega
    have HF1 := Lib.hid hfar1
    rw [List.length_map] at hl3
    have HL3 := Lib.hid hl3
    clear hfar1 hl3 ho3 hq3 hlt3
    go_roundw
    case rel => exact ⟨i + 1, _, some ⟨qn, 0, none⟩, cn, by go_num, by omega, rfl, Lib.hid (by rw [HN1.out, List.length_append]; rfl), by rw [HN1.out, List.map_append]; exact HL3.out, HF1.out, hsn⟩
    case measure => simp [intOf]; omega
  have hmO : 0 < O.length := by have := hmm.out; omega
  have hm1 : O.length - 1 = m - 1 := by have := hmm.out; omega
  have hmp : (0 : Int) < (m : Int) := by omega
  have hmn : 0 < m := by omega
  have hm100 : m ≤ 100 := by have := hmm.out; omega
  have hw1 : IntKind.i64.wrap (hi2 + 1) = hi2 + 1 := by simp [IntKind.wrap, IntKind.bits, IntKind.signed]; omega
  have hw2 : IntKind.i64.wrap ((m - 1 : Nat) : Int) = ((m - 1 : Nat) : Int) := by simp [IntKind.wrap, IntKind.bits, IntKind.signed]; omega
  have hlA : (O.map rngRow)[m - 1]? = some (rngRow (rat O (m - 1))) := by rw [rat_get (by omega)]; exact elem_of_rng (by omega)
  obtain ⟨qo, rfl⟩ : ∃ q, Ao = some ⟨q, 0, none⟩ := by
   obtain ⟨A2, c2, hv, _, _, hA⟩ := HLO.out.shape
   simp only [Value.slice.injEq] at hv
   obtain ⟨rfl, h2, rfl⟩ := hv
   rcases hA with ⟨_, h3, _⟩ | ⟨g, rfl⟩
   · rw [h3] at h2; simp at h2; omega
   · exact ⟨g, rfl⟩
  have hstep : jinto O ⟨lo, hi2⟩ = decide ((rat O (m - 1)).lo ≤ hi2 + 1) := by unfold jinto; rw [hm1, decide_eq_true hmO]; rfl
  have hset : jinto O ⟨lo, hi2⟩ = true → joinL (L'.take (i + 1)) = O.set (m - 1) ⟨min (rat O (m - 1)).lo lo, (rat O (m - 1)).hi⟩ := fun h => by rw [HST.out, jstep, if_pos h, hm1]
  have HSE := Lib.hid hset
  have HSP := Lib.hid hstep
  have HHO := Lib.hid hmO
  have d0 : wr.cell? ⟨qo, (m - 1) * 2, none⟩ = some (.int .i64 (rat O (m - 1)).lo) := HLO.out.cell rfl hlA (j := 0) rfl
  have fz := World.ownsRow.frozenAt (w := wr) (base := 0) (e := 101) (size := 2) (g := qo) (n := m) (cap := co) (xs := flat (O.map rngRow)) (by have := HLO.out.own; rw [HML.out] at this; exact this)
  have lq : qo < wr.heap.size := HLO.out.lt qo (by simp [Value.ownBlock])
  have HLA := Lib.hid hlA
  clear hset hstep hlA hm1 hmO hmi
  have hm2' : (m : Int) - 1 = ((m - 1 : Nat) : Int) := by omega
  have hm3 : ((m - 1 : Nat) : Int) < (m : Int) := by omega
  generalize hrl : rat O (m - 1) = rl at *
  obtain ⟨ll, lh⟩ := rl
  simp only at d0
  have d1 : (wr.alloc (.cells #[.int .i64 lo, .int .i64 hi2] 101)).cell? ⟨qo, (m - 1) * 2, none⟩ = some (.int .i64 ll) := ((Since.refl wr).alloc _).cell lq d0
  by_cases hin : ll ≤ hi2 + 1
  case neg =>
   have hin' : decide (ll ≤ hi2 + 1) = false := by simpa using hin
   have HN1 := Lib.hid (HPU.out (by rw [HSP.out]; exact hin'))
   go_wp2_with fail
   go_quiet (fail)
   go_wp2_with (at_builtin; refine wpList_push rfl _ _ 44 rfl 101 2 16 Tryz.elRange (.slice (some ⟨qo, 0, none⟩) m co) (O.map rngRow) rfl ?_ (wr.heap.size + 1) 1 [.int .i64 lo, .int .i64 hi2] rfl rfl (rngRow_one ⟨lo, hi2⟩).2 ?_ ?_ ?_; (exact ((HLO.out.alloc _).drewN _).alloc _); (exact HFR.out _ (by simp)); (rw [HML.out]; omega); intro qn cn w3 hl3 ho3 hq3 hlt3)
   have hsn : Since w2 w3 := ((hs.alloc _).drewN _ |>.alloc _).out' ho3 (fun k hk => HFAR.out k (blocks_any (some ⟨qo, 0, none⟩) _ _ _ _ ▸ hk))
   have hfar1 : ∀ k, k ∈ blocks (.slice (some ⟨qn, 0, none⟩) 0 0) → w2.heap.size ≤ k := by
    intro k hk
    have hkq : qn = k := by simpa [Value.ownBlock] using hk
    rw [← hkq]
    rcases hq3 with h1 | h1
    · exact HFAR.out _ (blocks_any (some ⟨qo, 0, none⟩) _ _ _ _ ▸ h1)
    · have := hs.le; simp at h1; omega
   have HF1 := Lib.hid hfar1
   rw [List.length_map] at hl3
   have HL3 := Lib.hid hl3
   clear hfar1 hl3 ho3 hq3 hlt3
   go_roundw
   case rel => exact ⟨i + 1, _, some ⟨qn, 0, none⟩, cn, by go_num, by omega, rfl, Lib.hid (by rw [HN1.out, List.length_append]; rfl), by rw [HN1.out, List.map_append]; exact HL3.out, HF1.out, hsn⟩
   case measure => simp [intOf]; omega
  have hin' : decide (ll ≤ hi2 + 1) = true := by simpa using hin
  have HN1 := Lib.hid (HSE.out (by rw [HSP.out]; exact hin'))
  go_wp2_with fail
  go_quiet (fail)
  go_wp2_with fail
  go_region
  have hqo : w2.heap.size ≤ qo := HFAR.out qo (by simp [Value.ownBlock])
  have hl4 := ((HLO.out.alloc (.cells #[.int .i64 lo, .int .i64 hi2] 101)).drewN (nq + 1)).setc (i := m - 1) (j := 0) HLA.out (by decide) (u := .int .i64 (min ll lo)) rfl
  have he4 : (O.map rngRow).set (m - 1) ((rngRow ⟨ll, lh⟩).set 0 (.int .i64 (min ll lo))) = (O.set (m - 1) ⟨min ll lo, lh⟩).map rngRow := by rw [List.map_set]; rfl
  rw [he4] at hl4
  have HL4 := Lib.hid hl4
  have hll : m = (joinL (L'.take (i + 1))).length := by rw [HN1.out, List.length_set]; exact hmm.out
  have HLL := Lib.hid hll
  clear hl4 he4 hll
  go_wp2_with fail
  go_roundw
  case rel => exact ⟨i + 1, m, some ⟨qo, 0, none⟩, co, by go_num, by omega, rfl, HLL, by rw [HN1.out]; exact HL4.out, HFAR.out, (by exact Since.set (Since.drewN (Since.alloc hs _) _) hqo _)⟩
  case measure => simp [intOf]; omega
end Go.Proofs.YtmfbaijbigodkaaGreatDoor
namespace Go.Proofs.YtmfbaijbigodkaaGreatDoor
set_option linter.unusedVariables false
structure Canon (L : List Rng) : Prop where
 ok : ∀ r ∈ L, r.lo ≤ r.hi
 apart : L.Pairwise (fun a b => b.hi + 1 < a.lo)
structure CanonR (L : List Rng) : Prop where
 ok : ∀ r ∈ L, r.lo ≤ r.hi
 apart : L.Pairwise (fun a b => a.hi + 1 < b.lo)
def jr (acc : List Rng) (r : Rng) : List Rng :=
 match acc with
 | [] => [r]
 | l :: t => if l.lo ≤ r.hi + 1 then ⟨min l.lo r.lo, l.hi⟩ :: t else r :: l :: t
theorem jstep_jr (acc : List Rng) (r : Rng) : jstep acc.reverse r = (jr acc r).reverse := by
 cases acc with
 | nil => rfl
 | cons l t =>
   have hr : rat (l :: t).reverse ((l :: t).reverse.length - 1) = l := by
    rw [rat_get (by simp)]
    simp
   unfold jstep jinto
   rw [hr]
   simp only [jr]
   by_cases h : l.lo ≤ r.hi + 1
   · rw [if_pos h, if_pos (by simp [h])]
     simp
   · rw [if_neg h, if_neg (by simp [h])]
     simp
theorem joinL_jr (L : List Rng) : ∀ acc, L.foldl jstep acc.reverse = (L.foldl jr acc).reverse := by
 induction L with
 | nil => intro acc; rfl
 | cons r t ih => intro acc; rw [List.foldl_cons, List.foldl_cons, jstep_jr, ih]
theorem inB_cons (r : Rng) (L : List Rng) (x : Int) : inB (r :: L) x = (rin r x || inB L x) := rfl
theorem inB_append (L M : List Rng) (x : Int) : inB (L ++ M) x = (inB L x || inB M x) := List.any_append
theorem inB_reverse (L : List Rng) (x : Int) : inB L.reverse x = inB L x := List.any_reverse
theorem inB_perm {L M : List Rng} (h : L.Perm M) (x : Int) : inB L x = inB M x := h.any_eq
theorem jr_in {acc : List Rng} {r : Rng} (hr : r.lo ≤ r.hi) (ha : ∀ l ∈ acc, l.lo ≤ l.hi ∧ r.hi ≤ l.hi) (x : Int) : inB (jr acc r) x = (inB acc x || rin r x) := by
 cases acc with
 | nil => simp [jr, inB]
 | cons l t =>
   obtain ⟨h1, h2⟩ := ha l (by simp)
   simp only [jr]
   by_cases h : l.lo ≤ r.hi + 1
   · rw [if_pos h, inB_cons, inB_cons]
     have : rin ⟨min l.lo r.lo, l.hi⟩ x = (rin l x || rin r x) := by
      unfold rin
      rw [Bool.eq_iff_iff]
      simp
      omega
     rw [this]
     cases rin l x <;> cases rin r x <;> cases inB t x <;> rfl
   · rw [if_neg h, inB_cons, inB_cons]
     cases rin l x <;> cases rin r x <;> cases inB t x <;> rfl
theorem jr_canon {acc : List Rng} {r : Rng} (hr : r.lo ≤ r.hi) (ha : CanonR acc) : CanonR (jr acc r) := by
 cases acc with
 | nil => exact ⟨by simpa [jr] using hr, by simp [jr]⟩
 | cons l t =>
   have h1 := ha.ok l (by simp)
   have h2 := List.pairwise_cons.1 ha.apart
   simp only [jr]
   by_cases h : l.lo ≤ r.hi + 1
   · rw [if_pos h]
     refine ⟨fun a hm => ?_, List.pairwise_cons.2 ⟨fun b hb => h2.1 b hb, h2.2⟩⟩
     rcases List.mem_cons.1 hm with rfl | hm
     · show min l.lo r.lo ≤ l.hi; omega
     · exact ha.ok a (by simp [hm])
   · rw [if_neg h]
     refine ⟨fun a hm => ?_, List.pairwise_cons.2 ⟨fun b hb => ?_, ha.apart⟩⟩
     · rcases List.mem_cons.1 hm with rfl | hm
       · exact hr
       · exact ha.ok a hm
     · rcases List.mem_cons.1 hb with rfl | hb
       · omega
       · have := h2.1 b hb; omega
theorem jr_top {acc : List Rng} {r : Rng} {m : Int} (hr : m ≤ r.hi) (ha : ∀ l ∈ acc, m ≤ l.hi) : ∀ l ∈ jr acc r, m ≤ l.hi := by
 cases acc with
 | nil => intro l hl; simp [jr] at hl; rw [hl]; exact hr
 | cons a t =>
   intro l hl
   simp only [jr] at hl
   split at hl
   · rcases List.mem_cons.1 hl with rfl | hl
     · exact ha a (by simp)
     · exact ha l (by simp [hl])
   · rcases List.mem_cons.1 hl with rfl | hl
     · exact hr
     · exact ha l hl
theorem fold_jr (L : List Rng) : ∀ acc, (∀ r ∈ L, r.lo ≤ r.hi) → L.Pairwise (fun a b => b.hi ≤ a.hi) → CanonR acc → (∀ r ∈ L, ∀ l ∈ acc, r.hi ≤ l.hi) → CanonR (L.foldl jr acc) ∧ ∀ x, inB (L.foldl jr acc) x = (inB acc x || inB L x) := by
 induction L with
 | nil => intro acc _ _ h _; exact ⟨h, fun x => by simp [inB]⟩
 | cons r t ih =>
   intro acc hok hs hc hm
   have hr := hok r (by simp)
   have hs2 := List.pairwise_cons.1 hs
   rw [List.foldl_cons]
   obtain ⟨h1, h2⟩ := ih (jr acc r) (fun a ha => hok a (by simp [ha])) hs2.2 (jr_canon hr hc) (fun a ha l hl => jr_top (hs2.1 a ha) (fun l hl => hm a (by simp [ha]) l hl) l hl)
   refine ⟨h1, fun x => ?_⟩
   rw [h2, jr_in hr (fun l hl => ⟨hc.ok l hl, hm r (by simp) l hl⟩), inB_cons, Bool.or_assoc]
theorem joinL_canon {L : List Rng} (hok : ∀ r ∈ L, r.lo ≤ r.hi) (hs : L.Pairwise (fun a b => b.hi ≤ a.hi)) : Canon (joinL L) ∧ ∀ x, inB (joinL L) x = inB L x := by
 obtain ⟨h1, h2⟩ := fold_jr L [] hok hs ⟨by simp, by simp⟩ (by simp)
 have he : joinL L = (L.foldl jr []).reverse := joinL_jr L []
 rw [he]
 refine ⟨⟨fun r hr => h1.ok r (by simpa using hr), by rw [List.pairwise_reverse]; exact h1.apart⟩, fun x => ?_⟩
 rw [inB_reverse, h2]
 rfl
theorem inB_iff {L : List Rng} {x : Int} : inB L x = true ↔ ∃ r ∈ L, r.lo ≤ x ∧ x ≤ r.hi := by
 unfold inB rin
 simp
theorem canon_eq : ∀ {A B : List Rng}, Canon A → Canon B → (∀ x, inB A x = inB B x) → A = B
 | [], [], _, _, _ => rfl
 | [], b :: s, _, hb, h => by
   have := h b.lo
   have hb1 := hb.ok b (by simp)
   have : inB (b :: s) b.lo = true := inB_iff.2 ⟨b, by simp, by omega, hb1⟩
   rw [← h] at this
   simp [inB] at this
 | a :: t, [], ha, _, h => by
   have ha1 := ha.ok a (by simp)
   have : inB (a :: t) a.lo = true := inB_iff.2 ⟨a, by simp, by omega, ha1⟩
   rw [h] at this
   simp [inB] at this
 | a :: t, b :: s, ha, hb, h => by
   have ha1 := ha.ok a (by simp)
   have hb1 := hb.ok b (by simp)
   have ha2 := List.pairwise_cons.1 ha.apart
   have hb2 := List.pairwise_cons.1 hb.apart
   have top : ∀ {c : Rng} {u : List Rng}, Canon (c :: u) → ∀ x, inB (c :: u) x = true → x ≤ c.hi := fun {c u} hc x hx => by
    obtain ⟨r, hr, h1, h2⟩ := inB_iff.1 hx
    rcases List.mem_cons.1 hr with rfl | hr
    · exact h2
    · have := (List.pairwise_cons.1 hc.apart).1 r hr
      have := hc.ok c (by simp)
      omega
   have low : ∀ {c : Rng} {u : List Rng}, Canon (c :: u) → inB (c :: u) (c.lo - 1) = false := fun {c u} hc => by
    cases hx : inB (c :: u) (c.lo - 1) with
    | false => rfl
    | true =>
      obtain ⟨r, hr, h1, h2⟩ := inB_iff.1 hx
      rcases List.mem_cons.1 hr with rfl | hr
      · omega
      · have := (List.pairwise_cons.1 hc.apart).1 r hr
        omega
   have hh : a.hi = b.hi := by
    have h1 := top hb a.hi (by rw [← h]; exact inB_iff.2 ⟨a, by simp, ha1, by omega⟩)
    have h2 := top ha b.hi (by rw [h]; exact inB_iff.2 ⟨b, by simp, hb1, by omega⟩)
    omega
   have hl : a.lo = b.lo := by
    have h1 := low ha
    have h2 := low hb
    rcases Int.lt_trichotomy a.lo b.lo with hlt | he | hlt
    · rw [← h] at h2
      have : inB (a :: t) (b.lo - 1) = true := inB_iff.2 ⟨a, by simp, by omega, by omega⟩
      rw [this] at h2; cases h2
    · exact he
    · rw [h] at h1
      have : inB (b :: s) (a.lo - 1) = true := inB_iff.2 ⟨b, by simp, by omega, by omega⟩
      rw [this] at h1; cases h1
   have hab : a = b := by cases a; cases b; simp_all
   subst hab
   have ht := canon_eq (A := t) (B := s) ⟨fun r hr => ha.ok r (by simp [hr]), ha2.2⟩ ⟨fun r hr => hb.ok r (by simp [hr]), hb2.2⟩ (fun x => by
    have := h x
    rw [inB_cons, inB_cons] at this
    cases hx : rin a x with
    | false => rw [hx] at this; simpa using this
    | true =>
      have hx2 : a.lo ≤ x ∧ x ≤ a.hi := by unfold rin at hx; simpa using hx
      have no : ∀ {u : List Rng}, (∀ r ∈ u, r.hi + 1 < a.lo) → inB u x = false := fun {u} hu => by
       cases hy : inB u x with
       | false => rfl
       | true =>
         obtain ⟨r, hr, h1, h2⟩ := inB_iff.1 hy
         have := hu r hr
         omega
      rw [no ha2.1, no hb2.1])
   rw [ht]
end Go.Proofs.YtmfbaijbigodkaaGreatDoor
namespace Go.Proofs.YtmfbaijbigodkaaGreatDoor
open Go.ChangeShapes Go.WideShapes Go.ChangeAt Go.RowKit
set_option linter.unusedVariables false
theorem rfits (A : Option Addr) (n cap : Nat) (w : World) (hm : n ≤ 1000) :
  Calls Tryz.prog 105 #[.slice A n cap] w fun e w' => e = .returned (if 12 < n then .tuple #[.slice none 0 0, errV 4] else .tuple #[.slice A n cap, errV 0]) ∧ w = w' := by
 by_cases h : 12 < n
 · rw [if_pos h]
   have h1 : (12 : Int) < (n : Int) := by omega
   go_enter Tryz.func105, Tryz.ntmps105
   go_wp2
   go_ret2
   exact ⟨rfl, rfl⟩
 · rw [if_neg h]
   have h1 : decide ((12 : Int) < (n : Int)) = false := by simp; omega
   go_enter Tryz.func105, Tryz.ntmps105
   go_wp2
   go_ret2
   exact ⟨rfl, rfl⟩
theorem radd_out (A : Option Addr) (n cap : Nat) (L : List Rng) (x : Int) (w : World) (hn : L.length = n) (hb : ∀ r ∈ L, okI r.lo ∧ okI r.hi) (h : Rd w 2 (.slice A n cap) (L.map rngRow)) (hE : rngE L = 0) (hx : mayB x = false) :
  Calls Tryz.prog 58 #[.slice A n cap, .int .i64 x] w fun e w' => e = .returned (.tuple #[.slice none 0 0, .bool false, errV 1]) ∧ Below w.heap.size w w' := by
 have H := Lib.hid h
 have HN := Lib.hid hn
 have HB := Lib.hid hb
 have HE := Lib.hid hE
 have HX := Lib.hid hx
 clear h hn hb hE hx
 go_enter Tryz.func58, Tryz.ntmps58
 go_wp2_with (first | (go_at_call 104; refine (rcheck A n cap L _ HN.out HB.out H.out).mono ?_; rintro e w1 ⟨rfl, hb1⟩; rw [HE.out, errV_zero]) | (go_at_call 93; refine (may_any x _).mono ?_; rintro e w2 ⟨rfl, rfl⟩; rw [HX.out]))
 go_ret3
 exact ⟨rfl, (by exact Since.later (Since.refl _) hb1)⟩
theorem radd_ok (A : Option Addr) (n cap : Nat) (L : List Rng) (x : Int) (w : World) (hn : L.length = n) (hb : ∀ r ∈ L, okI r.lo ∧ okI r.hi) (h : Rd w 2 (.slice A n cap) (L.map rngRow)) (hE : rngE L = 0) (hx : mayB x = true) :
  Calls Tryz.prog 58 #[.slice A n cap, .int .i64 x] w fun e w' => ∃ L' : List Rng, L'.Perm (L ++ [⟨x, x⟩]) ∧ L'.Pairwise (fun a b => b.hi ≤ a.hi) ∧ Below w.heap.size w w' ∧
   ((12 < (joinL L').length ∧ e = .returned (.tuple #[.slice none 0 0, .bool false, errV 4])) ∨
    ((joinL L').length ≤ 12 ∧ ∃ A' cap', e = .returned (.tuple #[.slice A' (joinL L').length cap', .bool (!inB L x), errV 0]) ∧ Lst w' 101 2 (.slice A' (joinL L').length cap') ((joinL L').map rngRow) ∧ ∀ k, k ∈ blocks (.slice A' 0 0) → w.heap.size ≤ k)) := by
 have H := Lib.hid h
 have HN := Lib.hid hn
 have HB := Lib.hid hb
 have HE := Lib.hid hE
 have HX := Lib.hid hx
 have hl12 : n ≤ 12 := by rw [← hn]; exact rngE_len hE
 have HML : Hid ((L.map rngRow).length = n) := Lib.hid (by rw [List.length_map]; exact hn)
 have HOK : Hid (∀ r ∈ L ++ [(⟨x, x⟩ : Rng)], okN r) := Lib.hid (fun r hr => by
  rcases List.mem_append.1 hr with hr | hr
  · exact rngE_ok hE r hr
  · rw [List.mem_singleton.1 hr]; exact ⟨mayB_iff.1 hx, mayB_iff.1 hx⟩)
 clear h hn hb hE hx
 go_enter Tryz.func58, Tryz.ntmps58
 go_wp2_with (first | (go_at_call 104; refine (rcheck A n cap L _ HN.out HB.out H.out).mono ?_; rintro e w1 ⟨rfl, hb1⟩; rw [HE.out, errV_zero]; have HB1 := Lib.hid hb1; clear hb1) | (go_at_call 93; refine (may_any x _).mono ?_; rintro e w2 ⟨rfl, rfl⟩; rw [HX.out]) | (go_at_call 66; refine (rclone A n cap L _ HN.out (by omega) (H.out.later HB1.out)).mono ?_; rintro e w3 ⟨A3, c3, rfl, hl3, hb3, hk3⟩; have HL3 := Lib.hid hl3; have HK3 := Lib.hid hk3; have HS3 := Lib.hid ((show Since w w1 from HB1.out).later hb3); clear hl3 hk3 hb3) | (at_builtin; refine wpList_push rfl _ _ 44 rfl 101 2 16 Tryz.elRange (.slice A3 n c3) (L.map rngRow) rfl (HL3.out.alloc _) w3.heap.size 1 [.int .i64 x, .int .i64 x] rfl rfl (rngRow_one ⟨x, x⟩).2 (BlockIs.fresh _ _ _) (by rw [HML.out]; omega) ?_; intro q4 c4 w4 hl4 ho4 hq4 hlt4; rw [HML.out] at hl4; (try rw [HML.out]); have HL4 : Hid (Lst w4 101 2 (.slice (some ⟨q4, 0, none⟩) (n + 1) c4) ((L ++ [(⟨x, x⟩ : Rng)]).map rngRow)) := Lib.hid (by rw [List.map_append]; exact hl4); have HS4 := Lib.hid ((HS3.out.alloc _).out' ho4 (fun k hk => Nat.le_trans HB1.out.size (HK3.out k (blocks_any A3 _ _ _ _ ▸ hk)))); clear hl4 ho4 hq4 hlt4) | (go_at_call 106; refine (rjoined (some ⟨q4, 0, none⟩) (n + 1) c4 (L ++ [⟨x, x⟩]) w4 (by rw [List.length_append, HN.out]; rfl) (by omega) (by omega) HOK.out (Rd.of_lst HL4.out)).mono ?_; rintro e w5 ⟨L5, A5, c5, hp5, hs5, rfl, hl5, hb5, hk5⟩; have HP5 := Lib.hid hp5; have HQ5 := Lib.hid hs5; have HL5 := Lib.hid hl5; have HK5 := Lib.hid hk5; have HS5 := Lib.hid (HS4.out.later hb5); have hjl := joinL_len L5 L5.length; rw [List.take_length, hp5.length_eq, List.length_append, HN.out] at hjl; have HJ5 := Lib.hid hjl; clear hp5 hs5 hl5 hb5 hk5 hjl))
 refine (rfits A5 (joinL L5).length c5 _ (by have := HJ5.out; simp only [List.length_cons, List.length_nil] at this; omega)).mono ?_
 rintro e w6 ⟨rfl, rfl⟩
 have hs5 := HS5.out
 by_cases hj : 12 < (joinL L5).length
 · rw [if_pos hj, show errV 4 = .iface 84 (.int .i64 4) from rfl]
   have HJ := Lib.hid hj
   clear hj
   go_wp2_with fail
   go_ret3
   exact ⟨L5, HP5.out, HQ5.out, (by exact hs5), Or.inl ⟨HJ.out, rfl⟩⟩
 · rw [if_neg hj, errV_zero]
   have HJ := Lib.hid hj
   clear hj
   go_wp2_with (go_at_call 55; refine (rin_any A n cap L x _ HN.out (H.out.later hs5)).mono ?_; rintro e w7 ⟨rfl, hb7⟩)
   go_ret3
   exact ⟨L5, HP5.out, HQ5.out, (by exact Since.later hs5 hb7), Or.inr ⟨by have := HJ.out; omega, A5, c5, rfl, HL5.out.later hb7, fun k hk => Nat.le_trans HS4.out.le (HK5.out k hk)⟩⟩
end Go.Proofs.YtmfbaijbigodkaaGreatDoor
namespace Go.Proofs.YtmfbaijbigodkaaGreatDoor
set_option linter.unusedVariables false
theorem rngE_canon {L : List Rng} (h : rngE L = 0) : Canon L := by
 have hh : ∀ i, i < L.length → okN (rat L i) ∧ (rat L i).lo ≤ (rat L i).hi ∧ (0 < i → (rat L i).hi + 1 < (rat L (i - 1)).lo) := fun i hi => rngOne_ok (rngE_each h hi)
 refine ⟨fun r hr => ?_, ?_⟩
 · obtain ⟨i, hi, rfl⟩ := List.getElem_of_mem hr
   have := (hh i hi).2.1
   rwa [rat_get hi] at this
 · have key : ∀ j, j < L.length → ∀ i, i < j → (rat L j).hi + 1 < (rat L i).lo := by
    intro j
    induction j with
    | zero => intro _ i hi; omega
    | succ j ih =>
      intro hj i hi
      have h1 := (hh (j + 1) hj).2.2 (by omega)
      rw [Nat.add_sub_cancel] at h1
      by_cases he : i = j
      · rw [he]; exact h1
      · have h2 := ih (by omega) i (by omega)
        have h3 := (hh j (by omega)).2.1
        omega
   rw [List.pairwise_iff_getElem]
   intro i j hi hj hij
   have := key j hj i hij
   rwa [rat_get hi, rat_get hj] at this
theorem canon_rngE {L : List Rng} (h : Canon L) (hl : L.length ≤ 12) (hb : ∀ r ∈ L, okN r) : rngE L = 0 := by
 have hone : ∀ i, i < L.length → rngOne L i = 0 := fun i hi => by
  have ho := hb _ (List.getElem_mem hi)
  have hk := h.ok _ (List.getElem_mem hi)
  unfold rngOne
  rw [rat_get hi, if_pos ⟨mayB_iff.2 ho.1, mayB_iff.2 ho.2⟩, if_neg]
  intro hx
  rcases hx with hx | ⟨h0, hx⟩
  · omega
  · have := (List.pairwise_iff_getElem.1 h.apart) (i - 1) i (by omega) hi (by omega)
    rw [rat_get (by omega)] at hx
    omega
 have hup : ∀ n, n ≤ L.length → rngUp L n = 0 := by
  intro n
  induction n with
  | zero => intro _; rfl
  | succ n ih => intro hn; exact rngUp_ok (ih (by omega)) (hone n (by omega))
 unfold rngE
 rw [if_neg (by omega)]
 exact hup _ (Nat.le_refl _)
theorem joined_ok {L' M : List Rng} (hp : L'.Perm M) (hs : L'.Pairwise (fun a b => b.hi ≤ a.hi)) (hok : ∀ r ∈ M, okN r ∧ r.lo ≤ r.hi) : Canon (joinL L') ∧ (∀ y, inB (joinL L') y = inB M y) ∧ ∀ r ∈ joinL L', okN r := by
 obtain ⟨h1, h2⟩ := joinL_canon (fun r hr => (hok r (hp.mem_iff.1 hr)).2) hs
 have h3 : ∀ y, inB (joinL L') y = inB M y := fun y => (h2 y).trans (inB_perm hp y)
 refine ⟨h1, h3, fun r hr => ?_⟩
 have hk := h1.ok r hr
 have e1 : inB M r.lo = true := by rw [← h3]; exact inB_iff.2 ⟨r, hr, by omega, hk⟩
 have e2 : inB M r.hi = true := by rw [← h3]; exact inB_iff.2 ⟨r, hr, hk, by omega⟩
 obtain ⟨a, ha, a1, a2⟩ := inB_iff.1 e1
 obtain ⟨b, hb, b1, b2⟩ := inB_iff.1 e2
 obtain ⟨⟨⟨p1, p2⟩, p3, p4⟩, p5⟩ := hok a ha
 obtain ⟨⟨⟨q1, q2⟩, q3, q4⟩, q5⟩ := hok b hb
 exact ⟨⟨by omega, by omega⟩, by omega, by omega⟩
structure WSt where
 out : List Rng
 put : Bool
 x : Rng
def wstep (s : WSt) (r : Rng) : WSt :=
 if s.x.hi + 1 < r.lo then ⟨s.out ++ [r], s.put, s.x⟩
 else if r.hi < s.x.lo - 1 then (if s.put = true then ⟨s.out ++ [r], true, s.x⟩ else ⟨s.out ++ [s.x] ++ [r], true, s.x⟩)
 else ⟨s.out, s.put, ⟨if r.lo < s.x.lo then r.lo else s.x.lo, if s.x.hi < r.hi then r.hi else s.x.hi⟩⟩
def wup (L : List Rng) (x : Rng) (i : Nat) : WSt := (L.take i).foldl wstep ⟨[], false, x⟩
def withL (L : List Rng) (x : Rng) : List Rng := if (wup L x L.length).put = true then (wup L x L.length).out else (wup L x L.length).out ++ [(wup L x L.length).x]
theorem wup_zero (L : List Rng) (x : Rng) : wup L x 0 = ⟨[], false, x⟩ := rfl
theorem wup_succ {L : List Rng} {x : Rng} {i : Nat} (h : i < L.length) : wup L x (i + 1) = wstep (wup L x i) (rat L i) := by
 unfold wup
 rw [List.take_add_one, List.foldl_append, rat_get h]
 simp [List.getElem?_eq_getElem h]
theorem wstep_len (s : WSt) (r : Rng) : (wstep s r).out.length + (if (wstep s r).put = true then 0 else 1) ≤ s.out.length + (if s.put = true then 0 else 1) + 1 := by
 unfold wstep
 by_cases h1 : s.x.hi + 1 < r.lo
 · rw [if_pos h1]; simp; omega
 · rw [if_neg h1]
   by_cases h2 : r.hi < s.x.lo - 1
   · rw [if_pos h2]
     cases hp : s.put <;> simp
   · rw [if_neg h2]; simp
theorem wup_len (L : List Rng) (x : Rng) : ∀ i, i ≤ L.length → (wup L x i).out.length + (if (wup L x i).put = true then 0 else 1) ≤ i + 1
 | 0, _ => by simp [wup_zero]
 | i + 1, h => by
   have := wup_len L x i (by omega)
   have h2 := wstep_len (wup L x i) (rat L i)
   rw [wup_succ (by omega)]
   omega
structure WInv (L : List Rng) (x0 : Rng) (i : Nat) (s : WSt) : Prop where
 canon : Canon s.out
 xok : s.x.lo ≤ s.x.hi
 far : ∀ o ∈ s.out, ∀ j, i ≤ j → j < L.length → (rat L j).hi + 1 < o.lo
 away : s.put = false → ∀ o ∈ s.out, s.x.hi + 1 < o.lo
 low : s.put = true → ∀ j, i ≤ j → j < L.length → (rat L j).hi + 1 < s.x.lo
 same : ∀ y, (inB s.out y || (!s.put && rin s.x y)) = (inB (L.take i) y || rin x0 y)
theorem canon_snoc {L : List Rng} {r : Rng} (h : Canon L) (hr : r.lo ≤ r.hi) (hf : ∀ o ∈ L, r.hi + 1 < o.lo) : Canon (L ++ [r]) := by
 refine ⟨fun a ha => ?_, ?_⟩
 · rcases List.mem_append.1 ha with ha | ha
   · exact h.ok a ha
   · rw [List.mem_singleton.1 ha]; exact hr
 · rw [List.pairwise_append]
   exact ⟨h.apart, by simp, fun a ha b hb => by rw [List.mem_singleton.1 hb]; exact hf a ha⟩
theorem canon_rat {L : List Rng} (h : Canon L) {i j : Nat} (hij : i < j) (hj : j < L.length) : (rat L j).hi + 1 < (rat L i).lo := by
 have := (List.pairwise_iff_getElem.1 h.apart) i j (by omega) hj hij
 rw [rat_get hj, rat_get (by omega)]; exact this
theorem inB_take_succ {L : List Rng} {i : Nat} (h : i < L.length) (y : Int) : inB (L.take (i + 1)) y = (inB (L.take i) y || rin (rat L i) y) := by
 rw [List.take_succ_eq_append_getElem h, inB_append, rat_get h]
 simp [inB]
theorem winv {L : List Rng} {x0 : Rng} (hL : Canon L) (hx : x0.lo ≤ x0.hi) : ∀ i, i ≤ L.length → WInv L x0 i (wup L x0 i)
 | 0, _ => ⟨⟨by simp [wup_zero], by simp [wup_zero]⟩, hx, by simp [wup_zero], by simp [wup_zero], by simp [wup_zero], fun y => by simp [wup_zero, inB]⟩
 | i + 1, hi => by
   obtain ⟨c, xo, fa, aw, lo, sa⟩ := winv hL hx i (by omega)
   have hiL : i < L.length := by omega
   have hr : (rat L i).lo ≤ (rat L i).hi := by rw [rat_get hiL]; exact hL.ok _ (List.getElem_mem _)
   have hlater : ∀ j, i + 1 ≤ j → j < L.length → (rat L j).hi + 1 < (rat L i).lo := fun j h1 h2 => canon_rat hL (by omega) h2
   rw [wup_succ hiL]
   generalize wup L x0 i = s at *
   obtain ⟨out, put, x⟩ := s
   simp only at *
   generalize hrr : rat L i = r at *
   obtain ⟨rl, rh⟩ := r
   obtain ⟨xl, xh⟩ := x
   simp only at *
   have hfo : ∀ o ∈ out, rh + 1 < o.lo := fun o ho => by have := fa o ho i (Nat.le_refl _) hiL; rw [hrr] at this; exact this
   unfold wstep
   simp only
   by_cases h1 : xh + 1 < rl
   · rw [if_pos h1]
     have hpf : put = false := by
      cases hp : put with
      | false => rfl
      | true => have := lo hp i (Nat.le_refl _) hiL; rw [hrr] at this; simp only at this; omega
     subst hpf
     refine ⟨canon_snoc c hr hfo, xo, fun o ho j h2 h3 => ?_, fun _ o ho => ?_, fun h => by simp at h, fun y => ?_⟩
     · rcases List.mem_append.1 ho with ho | ho
       · exact fa o ho j (by omega) h3
       · rw [List.mem_singleton.1 ho]; exact hlater j h2 h3
     · rcases List.mem_append.1 ho with ho | ho
       · exact aw rfl o ho
       · rw [List.mem_singleton.1 ho]; exact h1
     · have := sa y
       rw [inB_take_succ hiL, hrr]
       simp only [inB_append] at this ⊢
       simp only [inB, List.any_cons, List.any_nil, Bool.or_false, Bool.not_false, Bool.true_and] at this ⊢
       rw [Bool.or_assoc, Bool.or_comm (rin ⟨rl, rh⟩ y), ← Bool.or_assoc, this, Bool.or_assoc, Bool.or_comm (rin x0 y), ← Bool.or_assoc]
   · rw [if_neg h1]
     by_cases h2 : rh < xl - 1
     · rw [if_pos h2]
       cases put with
       | true =>
         rw [if_pos rfl]
         refine ⟨canon_snoc c hr hfo, xo, fun o ho j h3 h4 => ?_, fun h => by simp at h, fun _ j h3 h4 => lo rfl j (by omega) h4, fun y => ?_⟩
         · rcases List.mem_append.1 ho with ho | ho
           · exact fa o ho j (by omega) h4
           · rw [List.mem_singleton.1 ho]; exact hlater j h3 h4
         · have := sa y
           rw [inB_take_succ hiL, hrr]
           simp only [inB_append] at this ⊢
           simp only [inB, List.any_cons, List.any_nil, Bool.or_false, Bool.not_true, Bool.false_and] at this ⊢
           rw [this, Bool.or_assoc, Bool.or_comm (rin x0 y), ← Bool.or_assoc]
       | false =>
         rw [if_neg (by simp)]
         refine ⟨canon_snoc (canon_snoc c xo (aw rfl)) hr (fun o ho => ?_), xo, fun o ho j h3 h4 => ?_, fun h => by simp at h, fun _ j h3 h4 => ?_, fun y => ?_⟩
         · rcases List.mem_append.1 ho with ho | ho
           · exact hfo o ho
           · rw [List.mem_singleton.1 ho]; show rh + 1 < xl; omega
         · have hl := hlater j h3 h4
           rcases List.mem_append.1 ho with ho | ho
           · rcases List.mem_append.1 ho with ho | ho
             · exact fa o ho j (by omega) h4
             · rw [List.mem_singleton.1 ho]; show _ < xl; omega
           · rw [List.mem_singleton.1 ho]; exact hl
         · have hl := hlater j h3 h4
           simp only at hl ⊢; omega
         · have := sa y
           rw [inB_take_succ hiL, hrr]
           simp only [inB_append] at this ⊢
           simp only [inB, List.any_cons, List.any_nil, Bool.or_false, Bool.not_true, Bool.not_false, Bool.true_and, Bool.false_and] at this ⊢
           rw [this, Bool.or_assoc, Bool.or_comm (rin x0 y), ← Bool.or_assoc]
     · rw [if_neg h2]
       have hpf : put = false := by
        cases hp : put with
        | false => rfl
        | true => have := lo hp i (Nat.le_refl _) hiL; rw [hrr] at this; simp only at this; omega
       subst hpf
       refine ⟨c, ?_, fun o ho j h3 h4 => fa o ho j (by omega) h4, fun _ o ho => ?_, fun h => by simp at h, fun y => ?_⟩
       · show (if rl < xl then rl else xl) ≤ (if xh < rh then rh else xh)
         split <;> split <;> omega
       · have a1 := hfo o ho
         have a2 := aw rfl o ho
         show (if xh < rh then rh else xh) + 1 < o.lo
         split <;> omega
       · have := sa y
         rw [inB_take_succ hiL, hrr]
         have hun : rin ⟨if rl < xl then rl else xl, if xh < rh then rh else xh⟩ y = (rin ⟨xl, xh⟩ y || rin ⟨rl, rh⟩ y) := by
          unfold rin
          rw [Bool.eq_iff_iff]
          simp
          split <;> split <;> omega
         simp only [Bool.not_false, Bool.true_and] at this ⊢
         rw [hun, ← Bool.or_assoc, this, Bool.or_assoc, Bool.or_comm (rin x0 y), ← Bool.or_assoc]
theorem withL_ok {L : List Rng} {x : Rng} (hL : Canon L) (hx : x.lo ≤ x.hi) : Canon (withL L x) ∧ ∀ y, inB (withL L x) y = (inB L y || rin x y) := by
 obtain ⟨c, xo, fa, aw, lo, sa⟩ := winv hL hx L.length (Nat.le_refl _)
 rw [List.take_length] at sa
 unfold withL
 generalize wup L x L.length = s at *
 cases hp : s.put with
 | true =>
   rw [if_pos rfl]
   refine ⟨c, fun y => ?_⟩
   have := sa y
   rw [hp] at this
   simpa using this
 | false =>
   rw [if_neg (by simp)]
   refine ⟨canon_snoc c xo (aw hp), fun y => ?_⟩
   have := sa y
   rw [hp] at this
   rw [inB_append]
   simpa [inB] using this
theorem with_joined {L L' : List Rng} {x : Int} (hL : Canon L) (hok : ∀ r ∈ L, okN r ∧ r.lo ≤ r.hi) (hx : 0 ≤ x ∧ x ≤ 1073741823) (hp : L'.Perm (L ++ [⟨x, x⟩])) (hs : L'.Pairwise (fun a b => b.hi ≤ a.hi)) : joinL L' = withL L ⟨x, x⟩ := by
 have h1 := joined_ok hp hs (fun r hr => by
  rcases List.mem_append.1 hr with hr | hr
  · exact hok r hr
  · rw [List.mem_singleton.1 hr]; exact ⟨⟨hx, hx⟩, Int.le_refl x⟩)
 have h2 := withL_ok (L := L) (x := ⟨x, x⟩) hL (Int.le_refl x)
 refine canon_eq h1.1 h2.1 (fun y => ?_)
 rw [h1.2.1, h2.2, inB_append]
 simp [inB]
end Go.Proofs.YtmfbaijbigodkaaGreatDoor
namespace Go.Proofs.YtmfbaijbigodkaaGreatDoor
open Go.ChangeShapes Go.WideShapes Go.ChangeAt Go.RowKit
set_option linter.unusedVariables false
theorem radd_bad (A : Option Addr) (n cap : Nat) (L : List Rng) (x : Int) (w : World) (hn : L.length = n) (hb : ∀ r ∈ L, okI r.lo ∧ okI r.hi) (h : Rd w 2 (.slice A n cap) (L.map rngRow)) (hE : rngE L ≠ 0) :
  Calls Tryz.prog 58 #[.slice A n cap, .int .i64 x] w fun e w' => e = .returned (.tuple #[.slice none 0 0, .bool false, errV (rngE L)]) ∧ Below w.heap.size w w' := by
 have H := Lib.hid h
 have HN := Lib.hid hn
 have HB := Lib.hid hb
 have HE := Lib.hid hE
 rw [errV_pos hE]
 clear h hn hb hE
 go_enter Tryz.func58, Tryz.ntmps58
 go_wp2_with (go_at_call 104; refine (rcheck A n cap L _ HN.out HB.out H.out).mono ?_; rintro e w1 ⟨rfl, hb1⟩; rw [errV_pos HE.out])
 go_ret3
 exact ⟨rfl, hb1⟩
theorem okRng {L : List Rng} (h : rngE L = 0) : ∀ r ∈ L, okN r ∧ r.lo ≤ r.hi := fun r hr => ⟨rngE_ok h r hr, (rngE_canon h).ok r hr⟩
theorem wstep_bound {s : WSt} {r : Rng} (hs : okN s.x ∧ ∀ o ∈ s.out, okN o) (hr : okN r) : okN (wstep s r).x ∧ ∀ o ∈ (wstep s r).out, okN o := by
 obtain ⟨hx, ho⟩ := hs
 unfold wstep
 split
 · exact ⟨hx, fun o h => by
    rcases List.mem_append.1 h with h | h
    · exact ho o h
    · rw [List.mem_singleton.1 h]; exact hr⟩
 · split
   · split
     · exact ⟨hx, fun o h => by
        rcases List.mem_append.1 h with h | h
        · exact ho o h
        · rw [List.mem_singleton.1 h]; exact hr⟩
     · exact ⟨hx, fun o h => by
        rcases List.mem_append.1 h with h | h
        · rcases List.mem_append.1 h with h | h
          · exact ho o h
          · rw [List.mem_singleton.1 h]; exact hx
        · rw [List.mem_singleton.1 h]; exact hr⟩
   · obtain ⟨⟨a1, a2⟩, a3, a4⟩ := hx
     obtain ⟨⟨b1, b2⟩, b3, b4⟩ := hr
     refine ⟨⟨⟨?_, ?_⟩, ?_, ?_⟩, ho⟩ <;> simp only <;> split <;> omega
theorem wup_bound {L : List Rng} {x : Rng} (hL : ∀ r ∈ L, okN r) (hx : okN x) : ∀ i, i ≤ L.length → okN (wup L x i).x ∧ ∀ o ∈ (wup L x i).out, okN o
 | 0, _ => ⟨hx, by simp [wup_zero]⟩
 | i + 1, h => by
   rw [wup_succ (by omega)]
   exact wstep_bound (wup_bound hL hx i (by omega)) (by rw [rat_get (by omega)]; exact hL _ (List.getElem_mem _))
theorem withL_bound {L : List Rng} {x : Rng} (hL : ∀ r ∈ L, okN r) (hx : okN x) : ∀ r ∈ withL L x, okN r := by
 obtain ⟨h1, h2⟩ := wup_bound hL hx L.length (Nat.le_refl _)
 unfold withL
 split
 · exact h2
 · intro r hr
   rcases List.mem_append.1 hr with hr | hr
   · exact h2 r hr
   · rw [List.mem_singleton.1 hr]; exact h1
def addE (L : List Rng) (x : Int) : Int := if rngE L = 0 then (if mayB x = true then (if 12 < (withL L ⟨x, x⟩).length then 4 else 0) else 1) else rngE L
def addL (L : List Rng) (x : Int) : List Rng := if addE L x = 0 then withL L ⟨x, x⟩ else []
def addB (L : List Rng) (x : Int) : Bool := decide (addE L x = 0) && !inB L x
theorem radd_any (A : Option Addr) (n cap : Nat) (L : List Rng) (x : Int) (w : World) (hn : L.length = n) (hb : ∀ r ∈ L, okI r.lo ∧ okI r.hi) (h : Rd w 2 (.slice A n cap) (L.map rngRow)) :
  Calls Tryz.prog 58 #[.slice A n cap, .int .i64 x] w fun e w' => ∃ A' c', e = .returned (.tuple #[.slice A' (addL L x).length c', .bool (addB L x), errV (addE L x)]) ∧ Below w.heap.size w w' ∧ Lst w' 101 2 (.slice A' (addL L x).length c') ((addL L x).map rngRow) ∧ ∀ k, k ∈ blocks (.slice A' 0 0) → w.heap.size ≤ k := by
 by_cases hE : rngE L = 0
 · cases hx : mayB x with
   | false =>
     have e1 : addE L x = 1 := by unfold addE; rw [if_pos hE, hx]; rfl
     have e2 : addL L x = [] := by unfold addL; rw [e1]; rfl
     have e3 : addB L x = false := by unfold addB; rw [e1]; rfl
     rw [e1, e2, e3]
     refine (radd_out A n cap L x w hn hb h hE hx).mono ?_
     rintro e w' ⟨he, hb'⟩
     exact ⟨none, 0, he, hb', Lst.nil _ _ _, by simp [Value.ownBlock]⟩
   | true =>
     refine (radd_ok A n cap L x w hn hb h hE hx).mono ?_
     rintro e w' ⟨L', hp, hs, hb', hr⟩
     have hj : joinL L' = withL L ⟨x, x⟩ := with_joined (rngE_canon hE) (okRng hE) (mayB_iff.1 hx) hp hs
     rw [hj] at hr
     rcases hr with ⟨h12, he⟩ | ⟨hl, A', c', he, hlst, hk⟩
     · have e1 : addE L x = 4 := by unfold addE; rw [if_pos hE, hx, if_pos rfl, if_pos h12]
       have e2 : addL L x = [] := by unfold addL; rw [e1]; rfl
       have e3 : addB L x = false := by unfold addB; rw [e1]; rfl
       rw [e1, e2, e3]
       exact ⟨none, 0, he, hb', Lst.nil _ _ _, by simp [Value.ownBlock]⟩
     · have e1 : addE L x = 0 := by unfold addE; rw [if_pos hE, hx, if_pos rfl, if_neg (by omega)]
       have e2 : addL L x = withL L ⟨x, x⟩ := by unfold addL; rw [if_pos e1]
       have e3 : addB L x = !inB L x := by unfold addB; rw [e1]; simp
       rw [e1, e2, e3]
       exact ⟨A', c', he, hb', hlst, hk⟩
 · have e1 : addE L x = rngE L := by unfold addE; rw [if_neg hE]
   have e2 : addL L x = [] := by unfold addL; rw [e1, if_neg hE]
   have e3 : addB L x = false := by unfold addB; rw [e1, decide_eq_false hE]; rfl
   rw [e1, e2, e3]
   refine (radd_bad A n cap L x w hn hb h hE).mono ?_
   rintro e w' ⟨he, hb'⟩
   exact ⟨none, 0, he, hb', Lst.nil _ _ _, by simp [Value.ownBlock]⟩
end Go.Proofs.YtmfbaijbigodkaaGreatDoor
