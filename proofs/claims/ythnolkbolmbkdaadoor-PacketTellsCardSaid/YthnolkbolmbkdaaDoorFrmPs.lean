/- Contract of frame.Parse. Condition: the string's length is an int; the tables hold what the program's text lays. -/
import Derived.Test.YthnolkbolmbkdaaDoorFrmPa
import Derived.Deep.RegionLaw
namespace Go.Proofs.YthnolkbolmbkdaaDoor
open Go.ChangeShapes Go.WideShapes Go.ChangeAt Go.RowKit
set_option linter.unusedVariables false

def frm0 : Frm := ⟨0, [], ByteArray.empty⟩
def pfE (b : List UInt8) : Int := if readF b = none then 2 else 0
def pfF (b : List UInt8) : Frm := ((readF b).getD (frm0, 0)).1
def pfN (b : List UInt8) : Nat := ((readF b).getD (frm0, 0)).2
theorem pf_none {b : List UInt8} (h : readF b = none) : pfE b = 2 ∧ pfF b = frm0 ∧ pfN b = 0 := by
  unfold pfE pfF pfN; rw [h]; exact ⟨by simp, rfl, rfl⟩
theorem pf_some {b : List UInt8} {f : Frm} {n : Nat} (h : readF b = some (f, n)) : pfE b = 0 ∧ pfF b = f ∧ pfN b = n := by
  unfold pfE pfF pfN; rw [h]; exact ⟨by simp, rfl, rfl⟩
theorem newA_none (g : Nat) : newA none g := fun b off h => by cases h
theorem frm0_in (w : World) : FrmIn w ⟨frm0, none, 0⟩ := ⟨by unfold okI frm0; simp, by simp [frm0], intsIn_nil w⟩
theorem readF_out {b : List UInt8} (h : b = [] ∨ bat b 0 < 1 ∨ 8 < bat b 0) : readF b = none := by unfold readF; rw [if_pos h]
theorem readF_rest {b : List UInt8} (h : ¬ (b = [] ∨ bat b 0 < 1 ∨ 8 < bat b 0)) : readF b = match restF (bat b 0) (b.drop 1) with | none => none | some (f, n) => some (f, n + 1) := by unfold readF; rw [if_neg h]; cases restF (bat b 0) (b.drop 1) <;> rfl

/-- a slice lies in no block g -/
def blkI (v : Value) (g : Nat) : Prop := ∀ A n c b off, v = .slice A n c → A = some ⟨b, off, none⟩ → b ≠ g
theorem ints_out {w w' : World} {v : Value} {zs : List Int} {g : Nat} {t : TypeId} {cs : Array Value} (h : IntsIn w v zs) (hb : BlockIs w g t cs) (ht : t ≠ 3) (ho : Out w w' [g]) (hn : blkI v g) : IntsIn w' v zs := by
  obtain ⟨h1, A, cap, h2, h3, h4, h5⟩ := h
  refine ⟨h1, A, cap, h2, h3, h4, fun hne => ?_⟩
  obtain ⟨b, off, e, hlt, hc⟩ := h5 hne
  have hbn := hn _ _ _ _ _ h2 e
  refine ⟨b, off, e, Nat.lt_of_lt_of_le hlt ho.size, fun i hi => ?_⟩
  have hblk := ho.block b hlt (by simpa using hbn)
  rw [← hc i hi]
  unfold World.cell?
  simp only
  rw [hblk]
set_option maxHeartbeats 6400000 in
set_option maxRecDepth 100000 in
theorem fparseN (s : ByteArray) (w : World) (hz : s.size ≤ 9223372036854775707) (hK : KTab w) (hC : CTab w) :
    Calls Tryd.prog 39 #[.string s] w fun e w' => ∃ (p : FrmV), e = .returned (.tuple #[p.agg, .int .i64 (pfN s.data.toList), errV (pfE s.data.toList)]) ∧ Below w.heap.size w w' ∧ FrmIn w' p ∧ p.f = pfF s.data.toList ∧ newA p.A w.heap.size := by
  have HK := Lib.hid hK
  have HC := Lib.hid hC
  have HZ := Lib.hid hz
  have HB0 := Lib.hid (BlockIs.fresh w 82 #[.int .i64 0, .slice none 0 0, .string ⟨#[]⟩])
  have HS0 := Lib.hid (show Since w (w.alloc (.cells #[.int .i64 0, .slice none 0 0, .string ⟨#[]⟩] 82)) from (Since.refl w).alloc _)
  have hsz : s.data.toList.length = s.size := rfl
  have FR := Lib.hid (fun k W h1 h8 hW hW2 => frest k (s.extract 1 s.size) W h1 h8 (Nat.le_trans (str_drop_size s 1) hz) hW hW2)
  rw [str_drop] at FR
  obtain ⟨b, hb⟩ : ∃ b, s.data.toList = b := ⟨_, rfl⟩
  have HRO := Lib.hid (readF_out (b := b))
  have HRR := Lib.hid (readF_rest (b := b))
  have hat := fun h => str_at s 0 h
  rw [hb] at hat hsz FR ⊢
  have HBL := Lib.hid hsz
  clear hK hC hz hb
  by_cases h0 : s.size = 0
  · obtain ⟨e1, e2⟩ := str_empty h0
    obtain ⟨p1, p2, p3⟩ := pf_none (HRO.out (Or.inl (List.length_eq_zero_iff.1 (by omega))))
    have P1 := Lib.hid p1
    have P2 := Lib.hid p2
    have P3 := Lib.hid p3
    clear p1 p2 p3 hat hsz h0
    go_enter Tryd.func39, Tryd.ntmps39
    trace "A"; go_wp2_with fail
    refine bodyPost_ret (v := .tuple #[.agg #[.int .i64 0, .slice none 0 0, .string ⟨#[]⟩], .int .i64 0, errV 2]) (by simp [results, Tryd.results39, go_sem]; rfl) rfl ⟨⟨frm0, none, 0⟩, by rw [P1.out, P3.out]; rfl, (by refine Since.out ?_; repeat (first | with_reducible assumption | with_reducible exact Since.refl _ | with_reducible refine Since.later ?_ (by with_reducible assumption) | with_reducible refine Since.only ?_ (by with_reducible assumption) (by first | assumption | omega | (simp; done) | (simp; omega)) | with_reducible refine Since.alloc ?_ _ | with_reducible refine Since.drewN ?_ _ | with_reducible refine Since.drew ?_ | with_reducible refine Since.set ?_ (by first | assumption | omega | (simp; done) | (simp; omega)) _)), frm0_in _, P2.out.symm, newA_none _⟩
  have hpos : 0 < s.size := by omega
  obtain ⟨e1, e2⟩ := str_full h0
  have e0 := hat hpos
  obtain ⟨b0, b1⟩ := bat_bounds b 0
  have hne : b ≠ [] := by intro h; rw [h] at hsz; simp at hsz; omega
  have HNE := Lib.hid hne
  generalize bat b 0 = x at *
  clear hat h0 hsz hne
  by_cases hx1 : x < 1
  · obtain ⟨p1, p2, p3⟩ := pf_none (HRO.out (Or.inr (Or.inl hx1)))
    have P1 := Lib.hid p1
    have P2 := Lib.hid p2
    have P3 := Lib.hid p3
    clear p1 p2 p3
    go_enter Tryd.func39, Tryd.ntmps39
    trace "B"; go_wp2_with fail
    refine bodyPost_ret (v := .tuple #[.agg #[.int .i64 0, .slice none 0 0, .string ⟨#[]⟩], .int .i64 0, errV 2]) (by simp [results, Tryd.results39, go_sem]; rfl) rfl ⟨⟨frm0, none, 0⟩, by rw [P1.out, P3.out]; rfl, (by refine Since.out ?_; repeat (first | with_reducible assumption | with_reducible exact Since.refl _ | with_reducible refine Since.later ?_ (by with_reducible assumption) | with_reducible refine Since.only ?_ (by with_reducible assumption) (by first | assumption | omega | (simp; done) | (simp; omega)) | with_reducible refine Since.alloc ?_ _ | with_reducible refine Since.drewN ?_ _ | with_reducible refine Since.drew ?_ | with_reducible refine Since.set ?_ (by first | assumption | omega | (simp; done) | (simp; omega)) _)), frm0_in _, P2.out.symm, newA_none _⟩
  have hx1' : decide (x < 1) = false := by simpa using hx1
  by_cases hx8 : 8 < x
  · obtain ⟨p1, p2, p3⟩ := pf_none (HRO.out (Or.inr (Or.inr hx8)))
    have P1 := Lib.hid p1
    have P2 := Lib.hid p2
    have P3 := Lib.hid p3
    clear p1 p2 p3 hx1
    go_enter Tryd.func39, Tryd.ntmps39
    trace "C"; go_wp2_with fail
    refine bodyPost_ret (v := .tuple #[.agg #[.int .i64 0, .slice none 0 0, .string ⟨#[]⟩], .int .i64 0, errV 2]) (by simp [results, Tryd.results39, go_sem]; rfl) rfl ⟨⟨frm0, none, 0⟩, by rw [P1.out, P3.out]; rfl, (by refine Since.out ?_; repeat (first | with_reducible assumption | with_reducible exact Since.refl _ | with_reducible refine Since.later ?_ (by with_reducible assumption) | with_reducible refine Since.only ?_ (by with_reducible assumption) (by first | assumption | omega | (simp; done) | (simp; omega)) | with_reducible refine Since.alloc ?_ _ | with_reducible refine Since.drewN ?_ _ | with_reducible refine Since.drew ?_ | with_reducible refine Since.set ?_ (by first | assumption | omega | (simp; done) | (simp; omega)) _)), frm0_in _, P2.out.symm, newA_none _⟩
  have hx8' : decide (8 < x) = false := by simpa using hx8
  have HR := Lib.hid (HRR.out (fun h => by rcases h with h | h | h; exact HNE.out h; omega; omega))
  have FR2 := Lib.hid (fun W hW hW2 => FR.out x W (by omega) (by omega) hW hW2)
  have hsl : (1 : Int) ≤ (s.size : Int) := by omega
  have hwrap : IntKind.i64.wrap x = x := by simp [IntKind.wrap, IntKind.bits, IntKind.signed]; omega
  have HX : Hid (1 ≤ x ∧ x ≤ 8) := Lib.hid (by omega)
  clear hx1 hx8
  go_enter Tryd.func39, Tryd.ntmps39
  trace "D"; go_wp2_with fail
  go_region_law (go_simp; go_at_call 77; refine (FR2.out _ (HK.out.later (by refine Since.out ?_; repeat (first | with_reducible assumption | with_reducible exact Since.refl _ | with_reducible refine Since.later ?_ (by with_reducible assumption) | with_reducible refine Since.only ?_ (by with_reducible assumption) (by first | assumption | omega | (simp; done) | (simp; omega)) | with_reducible refine Since.alloc ?_ _ | with_reducible refine Since.drewN ?_ _ | with_reducible refine Since.drew ?_ | with_reducible refine Since.set ?_ (by first | assumption | omega | (simp; done) | (simp; omega)) _))) (HC.out.later (by refine Since.out ?_; repeat (first | with_reducible assumption | with_reducible exact Since.refl _ | with_reducible refine Since.later ?_ (by with_reducible assumption) | with_reducible refine Since.only ?_ (by with_reducible assumption) (by first | assumption | omega | (simp; done) | (simp; omega)) | with_reducible refine Since.alloc ?_ _ | with_reducible refine Since.drewN ?_ _ | with_reducible refine Since.drew ?_ | with_reducible refine Since.set ?_ (by first | assumption | omega | (simp; done) | (simp; omega)) _)))).mono ?_; rintro e w1 ⟨⟨⟨kk, L, d⟩, A, c⟩, n, ok, rfl, hb1, hp1, hnw1, hr1⟩; (try dsimp only [FrmV.agg]); have HP1 := Lib.hid hp1; have HR1 := Lib.hid hr1; have HNW1 := Lib.hid hnw1; have HB1 := Lib.hid hb1; (first | (have hbx : BlockIs w1 (w.heap.size + 1) 82 #[.int .i64 0, .slice none 0 0, .string ⟨#[]⟩] := (by first | (refine BlockIs.later (BlockIs.drew (BlockIs.fresh_at ?_)) hb1; (simp only [World.size_alloc]; done)) | (refine BlockIs.later (BlockIs.fresh_at ?_) hb1; (simp only [World.size_alloc]; done))); have x0 : w1.cell? ⟨w.heap.size + 1, 0, none⟩ = some (.int .i64 0) := hbx.cell 0; have x1 : w1.cell? ⟨w.heap.size + 1, 1, none⟩ = some (.slice none 0 0) := hbx.cell 1; have x2 : w1.cell? ⟨w.heap.size + 1, 2, none⟩ = some (.string ⟨#[]⟩) := hbx.cell 2; have fx := hbx.free; have lx := hbx.lt; have HBX := Lib.hid hbx; clear hbx) | skip); clear hp1 hr1 hb1 hnw1)
  · have hb1 := HB1.out
    have hs1 : Since w w1 := (by refine Since.out ?_; repeat (first | with_reducible assumption | with_reducible exact Since.refl _ | with_reducible refine Since.later ?_ (by with_reducible assumption) | with_reducible refine Since.only ?_ (by with_reducible assumption) (by first | assumption | omega | (simp; done) | (simp; omega)) | with_reducible refine Since.alloc ?_ _ | with_reducible refine Since.drewN ?_ _ | with_reducible refine Since.drew ?_ | with_reducible refine Since.set ?_ (by first | assumption | omega | (simp; done) | (simp; omega)) _))
    have HNR : Hid (blkI (.slice A L.length c) w.heap.size) := Lib.hid (fun A' n' c' b' off' hv hA => by
      simp only [Value.slice.injEq] at hv
      obtain ⟨rfl, _⟩ := hv
      have := HNW1.out b' off' hA
      simp only [World.size_alloc, World.drew] at this
      omega)
    have HNB : Hid (ok = true → n ≤ s.size) := Lib.hid (fun h => by
      have := (restF_inv HX.out.1 HX.out.2 (show restF x (b.drop 1) = some (⟨kk, L, d⟩, n) by rw [HR1.out, if_pos h])).2.2.1
      rw [List.length_drop] at this
      have := HBL.out
      omega)
    have hbr : BlockIs w1 w.heap.size 82 #[.int .i64 0, .slice none 0 0, .string ⟨#[]⟩] := HB0.out.drew.later hb1
    have HBR := Lib.hid (hbr.alloc (.cells #[.int .i64 kk, .slice A L.length c, .string d] 82))
    have HBG := Lib.hid (BlockIs.fresh w1 82 #[.int .i64 kk, .slice A L.length c, .string d])
    have hsF : Since w (w1.alloc (.cells #[.int .i64 kk, .slice A L.length c, .string d] 82)) := hs1.alloc _
    have HPF : Hid (ok = true → FrmIn (w1.alloc (.cells #[.int .i64 kk, .slice A L.length c, .string d] 82)) ⟨⟨kk, L, d⟩, A, c⟩) := Lib.hid (fun h => (HP1.out h).later ((Since.refl w1).alloc _))
    clear hb1 hs1 hbr
    generalize (w1.alloc (.cells #[.int .i64 kk, .slice A L.length c, .string d] 82)) = wF at *
    have d0 : wF.cell? ⟨w1.heap.size, 0, none⟩ = some (.int .i64 kk) := HBG.out.cell 0
    have d1 : wF.cell? ⟨w1.heap.size, 1, none⟩ = some (.slice A L.length c) := HBG.out.cell 1
    have d2 : wF.cell? ⟨w1.heap.size, 2, none⟩ = some (.string d) := HBG.out.cell 2
    have y0 : wF.cell? ⟨w.heap.size, 0, none⟩ = some (.int .i64 0) := HBR.out.cell 0
    have y1 : wF.cell? ⟨w.heap.size, 1, none⟩ = some (.slice none 0 0) := HBR.out.cell 1
    have y2 : wF.cell? ⟨w.heap.size, 2, none⟩ = some (.string ⟨#[]⟩) := HBR.out.cell 2
    have fy := HBR.out.free
    have ly := HBR.out.lt
    have lg := HBG.out.lt
    cases ok with
    | false =>
      obtain ⟨p1, p2, p3⟩ := pf_none (b := b) (by rw [HR.out, HR1.out]; rfl)
      have P1 := Lib.hid p1
      have P2 := Lib.hid p2
      have P3 := Lib.hid p3
      clear p1 p2 p3
      go_wp2_with fail
      have HB3 := Lib.hid (st3 HBR.out (.int .i64 0) (.slice none 0 0) (.string ⟨#[]⟩))
      have hs3 := hsF.out' (out3 wF w.heap.size (.int .i64 0) (.slice none 0 0) (.string ⟨#[]⟩)) (fun k hk => by have : k = w.heap.size := by simpa using hk
                                                                                                                 omega)
      generalize (((wF.setCell ⟨w.heap.size, 0, none⟩ (.int .i64 0)).setCell ⟨w.heap.size, 1, none⟩ (.slice none 0 0)).setCell ⟨w.heap.size, 2, none⟩ (.string ⟨#[]⟩)) = w3 at *
      have k0 : w3.cell? ⟨w.heap.size, 0, none⟩ = some (.int .i64 0) := HB3.out.cell 0
      have k1 : w3.cell? ⟨w.heap.size, 1, none⟩ = some (.slice none 0 0) := HB3.out.cell 1
      have k2 : w3.cell? ⟨w.heap.size, 2, none⟩ = some (.string ⟨#[]⟩) := HB3.out.cell 2
      refine bodyPost_ret (v := .tuple #[.agg #[.int .i64 0, .slice none 0 0, .string ⟨#[]⟩], .int .i64 0, errV 2]) (by simp [results, Tryd.results39, go_sem, k0, k1, k2]; rfl) rfl ⟨⟨frm0, none, 0⟩, by rw [P1.out, P3.out]; rfl, hs3, frm0_in _, P2.out.symm, newA_none _⟩
    | true =>
      obtain ⟨p1, p2, p3⟩ := pf_some (b := b) (by rw [HR.out, HR1.out]; rfl)
      have P1 := Lib.hid p1
      have P2 := Lib.hid p2
      have P3 := Lib.hid p3
      have hn8 : n ≤ 9223372036854775707 := Nat.le_trans (HNB.out (by first | rfl | trivial)) HZ.out
      clear p1 p2 p3
      go_wp2_with fail
      have HB3 := Lib.hid (st3 HBR.out (.int .i64 kk) (.slice A L.length c) (.string d))
      have HO3 := Lib.hid (out3 wF w.heap.size (.int .i64 kk) (.slice A L.length c) (.string d))
      have hs3 := hsF.out' HO3.out (fun k hk => by have : k = w.heap.size := by simpa using hk
                                                   omega)
      generalize (((wF.setCell ⟨w.heap.size, 0, none⟩ (.int .i64 kk)).setCell ⟨w.heap.size, 1, none⟩ (.slice A L.length c)).setCell ⟨w.heap.size, 2, none⟩ (.string d)) = w3 at *
      have k0 : w3.cell? ⟨w.heap.size, 0, none⟩ = some (.int .i64 kk) := HB3.out.cell 0
      have k1 : w3.cell? ⟨w.heap.size, 1, none⟩ = some (.slice A L.length c) := HB3.out.cell 1
      have k2 : w3.cell? ⟨w.heap.size, 2, none⟩ = some (.string d) := HB3.out.cell 2
      refine bodyPost_ret (v := .tuple #[.agg #[.int .i64 kk, .slice A L.length c, .string d], .int .i64 ((n : Int) + 1), errV 0]) (by simp [results, Tryd.results39, go_sem, k0, k1, k2]; rfl) rfl ⟨⟨⟨kk, L, d⟩, A, c⟩, by rw [P1.out, P3.out]; rfl, hs3, ?_, P2.out.symm, newA_le HNW1.out (by first | (simp [World.drew]; done) | (simp [World.drew]; omega) | (simp; omega))⟩
      refine ⟨(HPF.out (by first | rfl | trivial)).kind, (HPF.out (by first | rfl | trivial)).data, ?_⟩
      exact ints_out (HPF.out (by first | rfl | trivial)).nums HBR.out (by decide) HO3.out HNR.out
  · have hb1 := HB1.out
    have hs1 : Since w w1 := (by refine Since.out ?_; repeat (first | with_reducible assumption | with_reducible exact Since.refl _ | with_reducible refine Since.later ?_ (by with_reducible assumption) | with_reducible refine Since.only ?_ (by with_reducible assumption) (by first | assumption | omega | (simp; done) | (simp; omega)) | with_reducible refine Since.alloc ?_ _ | with_reducible refine Since.drewN ?_ _ | with_reducible refine Since.drew ?_ | with_reducible refine Since.set ?_ (by first | assumption | omega | (simp; done) | (simp; omega)) _))
    have HNR : Hid (blkI (.slice A L.length c) w.heap.size) := Lib.hid (fun A' n' c' b' off' hv hA => by
      simp only [Value.slice.injEq] at hv
      obtain ⟨rfl, _⟩ := hv
      have := HNW1.out b' off' hA
      simp only [World.size_alloc, World.drew] at this
      omega)
    have HNR2 : Hid (blkI (.slice A L.length c) (w.heap.size + 1)) := Lib.hid (fun A' n' c' b' off' hv hA => by
      simp only [Value.slice.injEq] at hv
      obtain ⟨rfl, _⟩ := hv
      have := HNW1.out b' off' hA
      simp only [World.size_alloc, World.drew] at this
      omega)
    have HNB : Hid (ok = true → n ≤ s.size) := Lib.hid (fun h => by
      have := (restF_inv HX.out.1 HX.out.2 (show restF x (b.drop 1) = some (⟨kk, L, d⟩, n) by rw [HR1.out, if_pos h])).2.2.1
      rw [List.length_drop] at this
      have := HBL.out
      omega)
    have hbr : BlockIs w1 w.heap.size 82 #[.int .i64 0, .slice none 0 0, .string ⟨#[]⟩] := by first | exact BlockIs.later (BlockIs.drew (HB0.out.alloc _)) hb1 | exact BlockIs.later (HB0.out.drew.alloc _) hb1
    have HO2 := Lib.hid (out3 w1 (w.heap.size + 1) (.int .i64 kk) (.slice A L.length c) (.string d))
    have HBR := Lib.hid (HO2.out.block' hbr (by simp))
    have HBG := Lib.hid (st3 HBX.out (.int .i64 kk) (.slice A L.length c) (.string d))
    have hsF : Since w (((w1.setCell ⟨w.heap.size + 1, 0, none⟩ (.int .i64 kk)).setCell ⟨w.heap.size + 1, 1, none⟩ (.slice A L.length c)).setCell ⟨w.heap.size + 1, 2, none⟩ (.string d)) := hs1.out' HO2.out (fun k hk => by (have : k = w.heap.size + 1 := by simpa using hk); omega)
    have HPF : Hid (ok = true → FrmIn (((w1.setCell ⟨w.heap.size + 1, 0, none⟩ (.int .i64 kk)).setCell ⟨w.heap.size + 1, 1, none⟩ (.slice A L.length c)).setCell ⟨w.heap.size + 1, 2, none⟩ (.string d)) ⟨⟨kk, L, d⟩, A, c⟩) := Lib.hid (fun h => ⟨(HP1.out h).kind, (HP1.out h).data, ints_out (HP1.out h).nums HBX.out (by decide) HO2.out HNR2.out⟩)
    clear hb1 hs1 hbr x0 x1 x2 fx lx
    generalize (((w1.setCell ⟨w.heap.size + 1, 0, none⟩ (.int .i64 kk)).setCell ⟨w.heap.size + 1, 1, none⟩ (.slice A L.length c)).setCell ⟨w.heap.size + 1, 2, none⟩ (.string d)) = wF at *
    have d0 : wF.cell? ⟨w.heap.size + 1, 0, none⟩ = some (.int .i64 kk) := HBG.out.cell 0
    have d1 : wF.cell? ⟨w.heap.size + 1, 1, none⟩ = some (.slice A L.length c) := HBG.out.cell 1
    have d2 : wF.cell? ⟨w.heap.size + 1, 2, none⟩ = some (.string d) := HBG.out.cell 2
    have y0 : wF.cell? ⟨w.heap.size, 0, none⟩ = some (.int .i64 0) := HBR.out.cell 0
    have y1 : wF.cell? ⟨w.heap.size, 1, none⟩ = some (.slice none 0 0) := HBR.out.cell 1
    have y2 : wF.cell? ⟨w.heap.size, 2, none⟩ = some (.string ⟨#[]⟩) := HBR.out.cell 2
    have fy := HBR.out.free
    have ly := HBR.out.lt
    have lg := HBG.out.lt
    cases ok with
    | false =>
      obtain ⟨p1, p2, p3⟩ := pf_none (b := b) (by rw [HR.out, HR1.out]; rfl)
      have P1 := Lib.hid p1
      have P2 := Lib.hid p2
      have P3 := Lib.hid p3
      clear p1 p2 p3
      go_wp2_with fail
      have HB3 := Lib.hid (st3 HBR.out (.int .i64 0) (.slice none 0 0) (.string ⟨#[]⟩))
      have hs3 := hsF.out' (out3 wF w.heap.size (.int .i64 0) (.slice none 0 0) (.string ⟨#[]⟩)) (fun k hk => by have : k = w.heap.size := by simpa using hk
                                                                                                                 omega)
      generalize (((wF.setCell ⟨w.heap.size, 0, none⟩ (.int .i64 0)).setCell ⟨w.heap.size, 1, none⟩ (.slice none 0 0)).setCell ⟨w.heap.size, 2, none⟩ (.string ⟨#[]⟩)) = w3 at *
      have k0 : w3.cell? ⟨w.heap.size, 0, none⟩ = some (.int .i64 0) := HB3.out.cell 0
      have k1 : w3.cell? ⟨w.heap.size, 1, none⟩ = some (.slice none 0 0) := HB3.out.cell 1
      have k2 : w3.cell? ⟨w.heap.size, 2, none⟩ = some (.string ⟨#[]⟩) := HB3.out.cell 2
      refine bodyPost_ret (v := .tuple #[.agg #[.int .i64 0, .slice none 0 0, .string ⟨#[]⟩], .int .i64 0, errV 2]) (by simp [results, Tryd.results39, go_sem, k0, k1, k2]; rfl) rfl ⟨⟨frm0, none, 0⟩, by rw [P1.out, P3.out]; rfl, hs3, frm0_in _, P2.out.symm, newA_none _⟩
    | true =>
      obtain ⟨p1, p2, p3⟩ := pf_some (b := b) (by rw [HR.out, HR1.out]; rfl)
      have P1 := Lib.hid p1
      have P2 := Lib.hid p2
      have P3 := Lib.hid p3
      have hn8 : n ≤ 9223372036854775707 := Nat.le_trans (HNB.out (by first | rfl | trivial)) HZ.out
      clear p1 p2 p3
      go_wp2_with fail
      have HB3 := Lib.hid (st3 HBR.out (.int .i64 kk) (.slice A L.length c) (.string d))
      have HO3 := Lib.hid (out3 wF w.heap.size (.int .i64 kk) (.slice A L.length c) (.string d))
      have hs3 := hsF.out' HO3.out (fun k hk => by have : k = w.heap.size := by simpa using hk
                                                   omega)
      generalize (((wF.setCell ⟨w.heap.size, 0, none⟩ (.int .i64 kk)).setCell ⟨w.heap.size, 1, none⟩ (.slice A L.length c)).setCell ⟨w.heap.size, 2, none⟩ (.string d)) = w3 at *
      have k0 : w3.cell? ⟨w.heap.size, 0, none⟩ = some (.int .i64 kk) := HB3.out.cell 0
      have k1 : w3.cell? ⟨w.heap.size, 1, none⟩ = some (.slice A L.length c) := HB3.out.cell 1
      have k2 : w3.cell? ⟨w.heap.size, 2, none⟩ = some (.string d) := HB3.out.cell 2
      refine bodyPost_ret (v := .tuple #[.agg #[.int .i64 kk, .slice A L.length c, .string d], .int .i64 ((n : Int) + 1), errV 0]) (by simp [results, Tryd.results39, go_sem, k0, k1, k2]; rfl) rfl ⟨⟨⟨kk, L, d⟩, A, c⟩, by rw [P1.out, P3.out]; rfl, hs3, ?_, P2.out.symm, newA_le HNW1.out (by first | (simp [World.drew]; done) | (simp [World.drew]; omega) | (simp; omega))⟩
      refine ⟨(HPF.out (by first | rfl | trivial)).kind, (HPF.out (by first | rfl | trivial)).data, ?_⟩
      exact ints_out (HPF.out (by first | rfl | trivial)).nums HBR.out (by decide) HO3.out HNR.out
  · have hb1 := HB1.out
    have hs1 : Since w w1 := (by refine Since.out ?_; repeat (first | with_reducible assumption | with_reducible exact Since.refl _ | with_reducible refine Since.later ?_ (by with_reducible assumption) | with_reducible refine Since.only ?_ (by with_reducible assumption) (by first | assumption | omega | (simp; done) | (simp; omega)) | with_reducible refine Since.alloc ?_ _ | with_reducible refine Since.drewN ?_ _ | with_reducible refine Since.drew ?_ | with_reducible refine Since.set ?_ (by first | assumption | omega | (simp; done) | (simp; omega)) _))
    have HNR : Hid (blkI (.slice A L.length c) w.heap.size) := Lib.hid (fun A' n' c' b' off' hv hA => by
      simp only [Value.slice.injEq] at hv
      obtain ⟨rfl, _⟩ := hv
      have := HNW1.out b' off' hA
      simp only [World.size_alloc, World.drew] at this
      omega)
    have HNR2 : Hid (blkI (.slice A L.length c) (w.heap.size + 1)) := Lib.hid (fun A' n' c' b' off' hv hA => by
      simp only [Value.slice.injEq] at hv
      obtain ⟨rfl, _⟩ := hv
      have := HNW1.out b' off' hA
      simp only [World.size_alloc, World.drew] at this
      omega)
    have HNB : Hid (ok = true → n ≤ s.size) := Lib.hid (fun h => by
      have := (restF_inv HX.out.1 HX.out.2 (show restF x (b.drop 1) = some (⟨kk, L, d⟩, n) by rw [HR1.out, if_pos h])).2.2.1
      rw [List.length_drop] at this
      have := HBL.out
      omega)
    have hbr : BlockIs w1 w.heap.size 82 #[.int .i64 0, .slice none 0 0, .string ⟨#[]⟩] := by first | exact BlockIs.later (BlockIs.drew (HB0.out.alloc _)) hb1 | exact BlockIs.later (HB0.out.drew.alloc _) hb1
    have HO2 := Lib.hid (out3 w1 (w.heap.size + 1) (.int .i64 kk) (.slice A L.length c) (.string d))
    have HBR := Lib.hid (HO2.out.block' hbr (by simp))
    have HBG := Lib.hid (st3 HBX.out (.int .i64 kk) (.slice A L.length c) (.string d))
    have hsF : Since w (((w1.setCell ⟨w.heap.size + 1, 0, none⟩ (.int .i64 kk)).setCell ⟨w.heap.size + 1, 1, none⟩ (.slice A L.length c)).setCell ⟨w.heap.size + 1, 2, none⟩ (.string d)) := hs1.out' HO2.out (fun k hk => by (have : k = w.heap.size + 1 := by simpa using hk); omega)
    have HPF : Hid (ok = true → FrmIn (((w1.setCell ⟨w.heap.size + 1, 0, none⟩ (.int .i64 kk)).setCell ⟨w.heap.size + 1, 1, none⟩ (.slice A L.length c)).setCell ⟨w.heap.size + 1, 2, none⟩ (.string d)) ⟨⟨kk, L, d⟩, A, c⟩) := Lib.hid (fun h => ⟨(HP1.out h).kind, (HP1.out h).data, ints_out (HP1.out h).nums HBX.out (by decide) HO2.out HNR2.out⟩)
    clear hb1 hs1 hbr x0 x1 x2 fx lx
    generalize (((w1.setCell ⟨w.heap.size + 1, 0, none⟩ (.int .i64 kk)).setCell ⟨w.heap.size + 1, 1, none⟩ (.slice A L.length c)).setCell ⟨w.heap.size + 1, 2, none⟩ (.string d)) = wF at *
    have d0 : wF.cell? ⟨w.heap.size + 1, 0, none⟩ = some (.int .i64 kk) := HBG.out.cell 0
    have d1 : wF.cell? ⟨w.heap.size + 1, 1, none⟩ = some (.slice A L.length c) := HBG.out.cell 1
    have d2 : wF.cell? ⟨w.heap.size + 1, 2, none⟩ = some (.string d) := HBG.out.cell 2
    have y0 : wF.cell? ⟨w.heap.size, 0, none⟩ = some (.int .i64 0) := HBR.out.cell 0
    have y1 : wF.cell? ⟨w.heap.size, 1, none⟩ = some (.slice none 0 0) := HBR.out.cell 1
    have y2 : wF.cell? ⟨w.heap.size, 2, none⟩ = some (.string ⟨#[]⟩) := HBR.out.cell 2
    have fy := HBR.out.free
    have ly := HBR.out.lt
    have lg := HBG.out.lt
    cases ok with
    | false =>
      obtain ⟨p1, p2, p3⟩ := pf_none (b := b) (by rw [HR.out, HR1.out]; rfl)
      have P1 := Lib.hid p1
      have P2 := Lib.hid p2
      have P3 := Lib.hid p3
      clear p1 p2 p3
      go_wp2_with fail
      have HB3 := Lib.hid (st3 HBR.out (.int .i64 0) (.slice none 0 0) (.string ⟨#[]⟩))
      have hs3 := hsF.out' (out3 wF w.heap.size (.int .i64 0) (.slice none 0 0) (.string ⟨#[]⟩)) (fun k hk => by have : k = w.heap.size := by simpa using hk
                                                                                                                 omega)
      generalize (((wF.setCell ⟨w.heap.size, 0, none⟩ (.int .i64 0)).setCell ⟨w.heap.size, 1, none⟩ (.slice none 0 0)).setCell ⟨w.heap.size, 2, none⟩ (.string ⟨#[]⟩)) = w3 at *
      have k0 : w3.cell? ⟨w.heap.size, 0, none⟩ = some (.int .i64 0) := HB3.out.cell 0
      have k1 : w3.cell? ⟨w.heap.size, 1, none⟩ = some (.slice none 0 0) := HB3.out.cell 1
      have k2 : w3.cell? ⟨w.heap.size, 2, none⟩ = some (.string ⟨#[]⟩) := HB3.out.cell 2
      refine bodyPost_ret (v := .tuple #[.agg #[.int .i64 0, .slice none 0 0, .string ⟨#[]⟩], .int .i64 0, errV 2]) (by simp [results, Tryd.results39, go_sem, k0, k1, k2]; rfl) rfl ⟨⟨frm0, none, 0⟩, by rw [P1.out, P3.out]; rfl, hs3, frm0_in _, P2.out.symm, newA_none _⟩
    | true =>
      obtain ⟨p1, p2, p3⟩ := pf_some (b := b) (by rw [HR.out, HR1.out]; rfl)
      have P1 := Lib.hid p1
      have P2 := Lib.hid p2
      have P3 := Lib.hid p3
      have hn8 : n ≤ 9223372036854775707 := Nat.le_trans (HNB.out (by first | rfl | trivial)) HZ.out
      clear p1 p2 p3
      go_wp2_with fail
      have HB3 := Lib.hid (st3 HBR.out (.int .i64 kk) (.slice A L.length c) (.string d))
      have HO3 := Lib.hid (out3 wF w.heap.size (.int .i64 kk) (.slice A L.length c) (.string d))
      have hs3 := hsF.out' HO3.out (fun k hk => by have : k = w.heap.size := by simpa using hk
                                                   omega)
      generalize (((wF.setCell ⟨w.heap.size, 0, none⟩ (.int .i64 kk)).setCell ⟨w.heap.size, 1, none⟩ (.slice A L.length c)).setCell ⟨w.heap.size, 2, none⟩ (.string d)) = w3 at *
      have k0 : w3.cell? ⟨w.heap.size, 0, none⟩ = some (.int .i64 kk) := HB3.out.cell 0
      have k1 : w3.cell? ⟨w.heap.size, 1, none⟩ = some (.slice A L.length c) := HB3.out.cell 1
      have k2 : w3.cell? ⟨w.heap.size, 2, none⟩ = some (.string d) := HB3.out.cell 2
      refine bodyPost_ret (v := .tuple #[.agg #[.int .i64 kk, .slice A L.length c, .string d], .int .i64 ((n : Int) + 1), errV 0]) (by simp [results, Tryd.results39, go_sem, k0, k1, k2]; rfl) rfl ⟨⟨⟨kk, L, d⟩, A, c⟩, by rw [P1.out, P3.out]; rfl, hs3, ?_, P2.out.symm, newA_le HNW1.out (by first | (simp [World.drew]; done) | (simp [World.drew]; omega) | (simp; omega))⟩
      refine ⟨(HPF.out (by first | rfl | trivial)).kind, (HPF.out (by first | rfl | trivial)).data, ?_⟩
      exact ints_out (HPF.out (by first | rfl | trivial)).nums HBR.out (by decide) HO3.out HNR.out
theorem fparse (s : ByteArray) (w : World) (hz : s.size ≤ 9223372036854775707) (hK : KTab w) (hC : CTab w) :
    Calls Tryd.prog 39 #[.string s] w fun e w' => ∃ (p : FrmV), e = .returned (.tuple #[p.agg, .int .i64 (pfN s.data.toList), errV (pfE s.data.toList)]) ∧ Below w.heap.size w w' ∧ FrmIn w' p ∧ p.f = pfF s.data.toList :=
  (fparseN s w hz hK hC).mono fun _ _ ⟨p, h1, h2, h3, h4, _⟩ => ⟨p, h1, h2, h3, h4⟩
end Go.Proofs.YthnolkbolmbkdaaDoor
