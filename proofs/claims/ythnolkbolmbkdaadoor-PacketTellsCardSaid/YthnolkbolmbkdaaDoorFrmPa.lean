/- Contracts of frame.rest and frame.Parse. Condition: the string's length is an int; the tables hold what the program's text lays. -/
import Derived.Test.YthnolkbolmbkdaaDoorFrmRd
import Derived.Test.YthnolkbolmbkdaaDoorFrmChk
namespace Go.Proofs.YthnolkbolmbkdaaDoor
open Go.ChangeShapes Go.WideShapes Go.ChangeAt Go.RowKit
set_option linter.unusedVariables false

theorem st3 {W : World} {g : Nat} {t : TypeId} {x y z : Value} (h : BlockIs W g t #[x, y, z]) (a b c : Value) : BlockIs (((W.setCell ⟨g, 0, none⟩ a).setCell ⟨g, 1, none⟩ b).setCell ⟨g, 2, none⟩ c) g t #[a, b, c] := ((h.put 0 a).put 1 b).put 2 c
theorem out3 (W : World) (g : Nat) (a b c : Value) : Out W (((W.setCell ⟨g, 0, none⟩ a).setCell ⟨g, 1, none⟩ b).setCell ⟨g, 2, none⟩ c) [g] := (((Out.refl _ _).put (p := ⟨g, 0, none⟩) (Or.inl (by simp)) _).put (p := ⟨g, 1, none⟩) (Or.inl (by simp)) _).put (p := ⟨g, 2, none⟩) (Or.inl (by simp)) _
theorem Lst.far {w w' : World} {E size g : Nat} {v : Value} {es : List (List Value)} {t : TypeId} {cs : Array Value} (h : Lst w E size v es) (hb : BlockIs w g t cs) (ht : t ≠ E) (ho : Out w w' [g]) : Lst w' E size v es :=
  h.kept ho (fun k hk hk2 => h.apart hb ht (by rw [List.mem_singleton.1 hk2] at hk; exact hk))
/-- where numbers lie is new -/
def newA (A : Option Addr) (g : Nat) : Prop := ∀ b off, A = some ⟨b, off, none⟩ → g ≤ b
theorem newA_of {w : World} {E k g n c : Nat} {A : Option Addr} {es : List (List Value)} (h : Lst w E k (.slice A n c) es) (hn : ∀ q, q ∈ blocks (.slice A 0 0) → g ≤ q) : newA A g := by
  intro b off hA
  obtain ⟨A', cap', hv, _, _, hs⟩ := h.shape
  simp only [Value.slice.injEq] at hv
  obtain ⟨rfl, _⟩ := hv
  rcases hs with ⟨h0, _⟩ | ⟨q, rfl⟩
  · rw [h0] at hA; cases hA
  · have hq : q = b := by injection hA with h1; injection h1
    exact hq ▸ hn q (by simp [Value.ownBlock])
theorem newA_le {A : Option Addr} {g g' : Nat} (h : newA A g) (hl : g' ≤ g) : newA A g' := fun b off hA => Nat.le_trans hl (h b off hA)
theorem empty_str : (⟨#[]⟩ : ByteArray) = ByteArray.empty := ba_ext rfl
theorem cnt_read {k : Nat} (h1 : 1 ≤ k) (h8 : k ≤ 8) (h2 : k ≠ 2) : cntK k + (if k = 3 then 1 else 0) = (readK k : Nat) := by
  match k, h1, h8, h2 with
  | 1, _, _, _ => rfl
  | 3, _, _, _ => rfl
  | 4, _, _, _ => rfl
  | 5, _, _, _ => rfl
  | 6, _, _, _ => rfl
  | 7, _, _, _ => rfl
  | 8, _, _, _ => rfl
theorem frmIn_of {w : World} {f : Frm} {A : Option Addr} {c n : Nat} (hE : frmE f = 0) (h : Lst w 3 1 (.slice A n c) (f.nums.map intRow)) (hd : f.data.size ≤ 20) : FrmIn w ⟨f, A, c⟩ := by
  obtain ⟨⟨k1, k8⟩, _, hm, _, _⟩ := frmE_out hE
  refine ⟨by unfold okI; simp only; omega, by unfold maxLen; simp only; omega, ints_of_lst h (fun z hz => by have := hm z hz; unfold MayBe at this; omega)⟩
theorem restF_ack (b : List UInt8) : restF 2 b = match readA b with | none => none | some (L, n) => some (⟨2, unpairs L, ByteArray.empty⟩, n) := by unfold restF; rw [if_pos rfl]; cases readA b <;> rfl
theorem restF_num {k : Int} (h : k ≠ 2) {b : List UInt8} (hn : numUp b 0 (readK k) = none) : restF k b = none := by unfold restF; rw [if_neg h, hn]
theorem restF_plain {k : Int} (h : k ≠ 2) (h3 : k ≠ 3) {b : List UInt8} {L : List Int} {n : Nat} (hn : numUp b 0 (readK k) = some (L, n)) : restF k b = some (⟨k, L, ByteArray.empty⟩, n) := by unfold restF; rw [if_neg h, hn]; simp only; rw [if_neg h3]
theorem restF_no {b : List UInt8} {L : List Int} {n : Nat} (hn : numUp b 0 (readK 3) = some (L, n)) (hx : ¬ (ith L 1 ≤ 20 ∧ (n : Int) + ith L 1 ≤ b.length)) : restF 3 b = none := by unfold restF; rw [if_neg (by decide), hn]; simp only; rw [if_pos trivial, if_neg hx]
theorem restF_yes {b : List UInt8} {L : List Int} {n : Nat} (hn : numUp b 0 (readK 3) = some (L, n)) (hx : ith L 1 ≤ 20 ∧ (n : Int) + ith L 1 ≤ b.length) : restF 3 b = some (⟨3, [ith L 0], ⟨((b.drop n).take (ith L 1).toNat).toArray⟩⟩, n + (ith L 1).toNat) := by unfold restF; rw [if_neg (by decide), hn]; simp only; rw [if_pos trivial, if_pos hx]

set_option maxHeartbeats 6400000 in
set_option maxRecDepth 100000 in
theorem frest_ack (s : ByteArray) (w : World) (hz : s.size ≤ 9223372036854775807) (hK : KTab w) :
    Calls Tryd.prog 77 #[.int .i64 2, .string s] w fun e w' => ∃ (p : FrmV) (n : Nat) (ok : Bool), e = .returned (.tuple #[p.agg, .int .i64 n, .bool ok]) ∧ Below w.heap.size w w' ∧ (ok = true → FrmIn w' p) ∧ newA p.A w.heap.size ∧ restF 2 s.data.toList = if ok = true then some (p.f, n) else none := by
  have HK := Lib.hid hK
  have HZ := Lib.hid hz
  have HB0 := Lib.hid (BlockIs.fresh w 82 #[.int .i64 0, .slice none 0 0, .string ⟨#[]⟩])
  have HS0 := Lib.hid (show Since w (w.alloc (.cells #[.int .i64 0, .slice none 0 0, .string ⟨#[]⟩] 82)) from (Since.refl w).alloc _)
  have HRA := Lib.hid (restF_ack s.data.toList)
  clear hK
  go_enter Tryd.func77, Tryd.ntmps77
  trace "A"; go_wp2_with fail
  refine (aread s _ HZ.out (HK.out.later HS0.out)).mono ?_
  rintro e w1 ⟨A, cap, k, ok, M, rfl, hl, hM, hb1, hn1, he1, hr1⟩
  have HL1 := Lib.hid hl
  have HR1 := Lib.hid hr1
  have hs1 := HS0.out.later hb1
  have HB1 := Lib.hid (HB0.out.later hb1)
  clear hl hb1 hn1 he1 hr1
  go_wp2_with fail
  refine (facked A M.length cap M _ rfl (by omega) (Rd.of_lst HL1.out)).mono ?_
  rintro e w2 ⟨A2, c2, rfl, hl2, hb2, hn2⟩
  have HL2 := Lib.hid hl2
  have HNW := Lib.hid (newA_le (newA_of hl2 hn2) hs1.le)
  have hs2 := hs1.later hb2
  have HB2 := Lib.hid (HB1.out.later hb2)
  have r0 : w2.cell? ⟨w.heap.size, 0, none⟩ = some (.int .i64 0) := HB2.out.cell 0
  have r1 : w2.cell? ⟨w.heap.size, 1, none⟩ = some (.slice none 0 0) := HB2.out.cell 1
  have r2 : w2.cell? ⟨w.heap.size, 2, none⟩ = some (.string ⟨#[]⟩) := HB2.out.cell 2
  have l2 := HB2.out.lt
  have f2 := HB2.out.free
  clear hl2 hb2 hn2 hs1
  trace "B"; go_wp2_with fail
  have HB3 := Lib.hid (st3 HB2.out (.int .i64 2) (.slice A2 (2 * M.length) c2) (.string ⟨#[]⟩))
  have HO3 := Lib.hid (out3 w2 w.heap.size (.int .i64 2) (.slice A2 (2 * M.length) c2) (.string ⟨#[]⟩))
  have hs3 := hs2.out' HO3.out (fun k hk => by have : k = w.heap.size := by simpa using hk
                                               omega)
  generalize (((w2.setCell ⟨w.heap.size, 0, none⟩ (.int .i64 2)).setCell ⟨w.heap.size, 1, none⟩ (.slice A2 (2 * M.length) c2)).setCell ⟨w.heap.size, 2, none⟩ (.string ⟨#[]⟩)) = w3 at *
  have k0 : w3.cell? ⟨w.heap.size, 0, none⟩ = some (.int .i64 2) := HB3.out.cell 0
  have k1 : w3.cell? ⟨w.heap.size, 1, none⟩ = some (.slice A2 (2 * M.length) c2) := HB3.out.cell 1
  have k2 : w3.cell? ⟨w.heap.size, 2, none⟩ = some (.string ⟨#[]⟩) := HB3.out.cell 2
  refine bodyPost_ret (v := .tuple #[.agg #[.int .i64 2, .slice A2 (2 * M.length) c2, .string ⟨#[]⟩], .int .i64 k, .bool ok]) (by simp [results, Tryd.results77, go_sem, k0, k1, k2]) rfl ⟨⟨⟨2, unpairs M, ByteArray.empty⟩, A2, c2⟩, k, ok, ?_, hs3, ?_, HNW.out, ?_⟩
  · unfold FrmV.agg
    simp only [unpairs_len, empty_str]
  · intro hok
    have hrd : restF 2 s.data.toList = some (⟨2, unpairs M, ByteArray.empty⟩, k) := by rw [HRA.out, HR1.out, if_pos hok]
    exact frmIn_of (restF_inv (by decide) (by decide) hrd).1 (HL2.out.far HB2.out (by decide) HO3.out) (by simp)
  · rw [HRA.out, HR1.out]
    cases ok <;> rfl

set_option maxHeartbeats 6400000 in
set_option maxRecDepth 100000 in
theorem frest_num (kk : Nat) (s : ByteArray) (w : World) (g1 : 1 ≤ kk) (g8 : kk ≤ 8) (g2 : kk ≠ 2) (g3 : kk ≠ 3) (hz : s.size ≤ 9223372036854775807) (hK : KTab w) (hC : CTab w) :
    Calls Tryd.prog 77 #[.int .i64 kk, .string s] w fun e w' => ∃ (p : FrmV) (n : Nat) (ok : Bool), e = .returned (.tuple #[p.agg, .int .i64 n, .bool ok]) ∧ Below w.heap.size w w' ∧ (ok = true → FrmIn w' p) ∧ newA p.A w.heap.size ∧ restF kk s.data.toList = if ok = true then some (p.f, n) else none := by
  have HK := Lib.hid hK
  have HB0 := Lib.hid (BlockIs.fresh w 82 #[.int .i64 0, .slice none 0 0, .string ⟨#[]⟩])
  have HS0 := Lib.hid (show Since w (w.alloc (.cells #[.int .i64 0, .slice none 0 0, .string ⟨#[]⟩] 82)) from (Since.refl w).alloc _)
  have hcc := hC kk (by omega)
  have hgl := hC.lt
  have hcr := cnt_read g1 g8 g2
  rw [if_neg g3, Int.add_zero] at hcr
  rw [hcr] at hcc
  have hr2 : readK kk ≤ 2 := by unfold readK; split <;> (try split) <;> (try split) <;> omega
  have FN := Lib.hid (fun W hW => fnumbers s (readK kk) W (by omega) hz hW)
  have HQ2 : Hid ((kk : Int) ≠ 2) := Lib.hid (by omega)
  have HQ3 : Hid ((kk : Int) ≠ 3) := Lib.hid (by omega)
  have q2 : ((kk : Int) == 2) = false := by simp; omega
  have q3 : ((kk : Int) == 3) = false := by simp; omega
  have q3' : ((kk : Int) != 3) = true := by simp; omega
  obtain ⟨m, hm⟩ : ∃ m, readK kk = m := ⟨_, rfl⟩
  have HRM := Lib.hid hm
  rw [hm] at FN hr2 hcc
  clear hK hC hcr g2 g3 hm
  go_enter Tryd.func77, Tryd.ntmps77
  trace "A"; go_wp2_with fail
  refine (FN.out _ (HK.out.later HS0.out)).mono ?_
  rintro e w1 ⟨A, c, k, ok, L, rfl, hl, hb1, hn1, hr1, hbad⟩
  have HL1 := Lib.hid hl
  have HNW := Lib.hid (newA_le (newA_of hl hn1) HS0.out.le)
  have HR1 := Lib.hid hr1
  have HB := Lib.hid hbad
  have hs1 := HS0.out.later hb1
  have HBR1 := Lib.hid (HB0.out.later hb1)
  clear hl hb1 hn1 hr1 hbad
  have r0 : w1.cell? ⟨w.heap.size, 0, none⟩ = some (.int .i64 0) := HBR1.out.cell 0
  have r1 : w1.cell? ⟨w.heap.size, 1, none⟩ = some (.slice none 0 0) := HBR1.out.cell 1
  have r2 : w1.cell? ⟨w.heap.size, 2, none⟩ = some (.string ⟨#[]⟩) := HBR1.out.cell 2
  have l2 := HBR1.out.lt
  have f2 := HBR1.out.free
  cases ok with
  | false =>
    obtain rfl : L = [] := HB.out rfl
    trace "B"; go_wp2_with fail
    have HB3 := Lib.hid ((st3 HBR1.out (.int .i64 kk) (.slice A 0 c) (.string ⟨#[]⟩)).alloc (.cells #[.int .i64 kk, .slice A 0 c, .string ⟨#[]⟩] 82))
    have HO3 := Lib.hid ((out3 w1 w.heap.size (.int .i64 kk) (.slice A 0 c) (.string ⟨#[]⟩)).alloc (.cells #[.int .i64 kk, .slice A 0 c, .string ⟨#[]⟩] 82))
    have hs3 := hs1.out' HO3.out (fun k hk => by have : k = w.heap.size := by simpa using hk
                                                 omega)
    generalize ((((w1.setCell ⟨w.heap.size, 0, none⟩ (.int .i64 kk)).setCell ⟨w.heap.size, 1, none⟩ (.slice A 0 c)).setCell ⟨w.heap.size, 2, none⟩ (.string ⟨#[]⟩)).alloc (.cells #[.int .i64 kk, .slice A 0 c, .string ⟨#[]⟩] 82)) = w3 at *
    have k0 : w3.cell? ⟨w.heap.size, 0, none⟩ = some (.int .i64 kk) := HB3.out.cell 0
    have k1 : w3.cell? ⟨w.heap.size, 1, none⟩ = some (.slice A 0 c) := HB3.out.cell 1
    have k2 : w3.cell? ⟨w.heap.size, 2, none⟩ = some (.string ⟨#[]⟩) := HB3.out.cell 2
    refine bodyPost_ret (v := .tuple #[.agg #[.int .i64 kk, (.slice A 0 c), .string ⟨#[]⟩], .int .i64 k, .bool false]) (by simp [results, Tryd.results77, go_sem, k0, k1, k2]) rfl ⟨⟨⟨kk, [], ByteArray.empty⟩, A, c⟩, k, false, ?_, hs3, ?_, HNW.out, ?_⟩

    · unfold FrmV.agg
      simp only [List.length_nil, empty_str]
    · intro h; cases h
    · rw [restF_num HQ2.out (by rw [HRM.out, HR1.out]; rfl)]; rfl
  | true =>
    have hrf := restF_plain HQ2.out HQ3.out (L := L) (n := k) (by rw [HRM.out, HR1.out]; rfl)
    have HRF := Lib.hid hrf
    clear hrf
    trace "C"; go_wp2_with fail
    have HB3 := Lib.hid ((st3 HBR1.out (.int .i64 kk) (.slice A L.length c) (.string ⟨#[]⟩)).alloc (.cells #[.int .i64 kk, .slice A L.length c, .string ⟨#[]⟩] 82))
    have HO3 := Lib.hid ((out3 w1 w.heap.size (.int .i64 kk) (.slice A L.length c) (.string ⟨#[]⟩)).alloc (.cells #[.int .i64 kk, .slice A L.length c, .string ⟨#[]⟩] 82))
    have hs3 := hs1.out' HO3.out (fun k hk => by have : k = w.heap.size := by simpa using hk
                                                 omega)
    generalize ((((w1.setCell ⟨w.heap.size, 0, none⟩ (.int .i64 kk)).setCell ⟨w.heap.size, 1, none⟩ (.slice A L.length c)).setCell ⟨w.heap.size, 2, none⟩ (.string ⟨#[]⟩)).alloc (.cells #[.int .i64 kk, .slice A L.length c, .string ⟨#[]⟩] 82)) = w3 at *
    have k0 : w3.cell? ⟨w.heap.size, 0, none⟩ = some (.int .i64 kk) := HB3.out.cell 0
    have k1 : w3.cell? ⟨w.heap.size, 1, none⟩ = some (.slice A L.length c) := HB3.out.cell 1
    have k2 : w3.cell? ⟨w.heap.size, 2, none⟩ = some (.string ⟨#[]⟩) := HB3.out.cell 2
    refine bodyPost_ret (v := .tuple #[.agg #[.int .i64 kk, (.slice A L.length c), .string ⟨#[]⟩], .int .i64 k, .bool true]) (by simp [results, Tryd.results77, go_sem, k0, k1, k2]) rfl ⟨⟨⟨kk, L, ByteArray.empty⟩, A, c⟩, k, true, ?_, hs3, ?_, HNW.out, ?_⟩

    · unfold FrmV.agg
      simp only [empty_str]
    · intro _
      exact frmIn_of (restF_inv (by omega) (by omega) HRF.out).1 (HL1.out.far HBR1.out (by decide) HO3.out) (by simp)
    · rw [HRF.out]; rfl

set_option maxHeartbeats 6400000 in
set_option maxRecDepth 100000 in
theorem frest_str (s : ByteArray) (w : World) (hz2 : s.size ≤ 9223372036854775707) (hK : KTab w) (hC : CTab w) :
    Calls Tryd.prog 77 #[.int .i64 3, .string s] w fun e w' => ∃ (p : FrmV) (n : Nat) (ok : Bool), e = .returned (.tuple #[p.agg, .int .i64 n, .bool ok]) ∧ Below w.heap.size w w' ∧ (ok = true → FrmIn w' p) ∧ newA p.A w.heap.size ∧ restF 3 s.data.toList = if ok = true then some (p.f, n) else none := by
  have hz : s.size ≤ 9223372036854775807 := by omega
  have HZ2 := Lib.hid hz2
  have HK := Lib.hid hK
  have HB0 := Lib.hid (BlockIs.fresh w 82 #[.int .i64 0, .slice none 0 0, .string ⟨#[]⟩])
  have HS0 := Lib.hid (show Since w (w.alloc (.cells #[.int .i64 0, .slice none 0 0, .string ⟨#[]⟩] 82)) from (Since.refl w).alloc _)
  have hcc := hC 3 (by omega)
  have hgl := hC.lt
  rw [show cntK 3 = 1 from rfl] at hcc
  have FN : Hid (∀ W : World, KTab W → Calls Tryd.prog 106 #[.string s, .int .i64 2] W fun e w' => ∃ (A : Option Addr) (cap k : Nat) (ok : Bool) (L : List Int), e = .returned (.tuple #[.slice A L.length cap, .int .i64 k, .bool ok]) ∧ Lst w' 3 1 (.slice A L.length cap) (L.map intRow) ∧ Below W.heap.size W w' ∧ (∀ q, q ∈ blocks (.slice A 0 0) → W.heap.size ≤ q) ∧ numUp s.data.toList 0 2 = (if ok = true then some (L, k) else none) ∧ (ok = false → L = [])) := Lib.hid (fun W hW => fnumbers s 2 W (by omega) hz hW)
  have HRM : Hid (readK 3 = 2) := Lib.hid rfl
  have HZ := Lib.hid hz
  clear hK hC hz2
  go_enter Tryd.func77, Tryd.ntmps77
  trace "A"; go_wp2_with fail
  refine (FN.out _ (HK.out.later HS0.out)).mono ?_
  rintro e w1 ⟨A, c, k, ok, L, rfl, hl, hb1, hn1, hr1, hbad⟩
  have HL1 := Lib.hid hl
  have HNW := Lib.hid (newA_le (newA_of hl hn1) HS0.out.le)
  have HR1 := Lib.hid hr1
  have HB := Lib.hid hbad
  have hs1 := HS0.out.later hb1
  have HBR1 := Lib.hid (HB0.out.later hb1)
  clear hl hb1 hn1 hr1 hbad
  have r0 : w1.cell? ⟨w.heap.size, 0, none⟩ = some (.int .i64 0) := HBR1.out.cell 0
  have r1 : w1.cell? ⟨w.heap.size, 1, none⟩ = some (.slice none 0 0) := HBR1.out.cell 1
  have r2 : w1.cell? ⟨w.heap.size, 2, none⟩ = some (.string ⟨#[]⟩) := HBR1.out.cell 2
  have l2 := HBR1.out.lt
  have f2 := HBR1.out.free
  cases ok with
  | false =>
    obtain rfl : L = [] := HB.out rfl
    trace "B"; go_wp2_with fail
    have HB3 := Lib.hid ((st3 HBR1.out (.int .i64 3) (.slice A 0 c) (.string ⟨#[]⟩)).alloc (.cells #[.int .i64 3, .slice A 0 c, .string ⟨#[]⟩] 82))
    have HO3 := Lib.hid ((out3 w1 w.heap.size (.int .i64 3) (.slice A 0 c) (.string ⟨#[]⟩)).alloc (.cells #[.int .i64 3, .slice A 0 c, .string ⟨#[]⟩] 82))
    have hs3 := hs1.out' HO3.out (fun k hk => by have : k = w.heap.size := by simpa using hk
                                                 omega)
    generalize ((((w1.setCell ⟨w.heap.size, 0, none⟩ (.int .i64 3)).setCell ⟨w.heap.size, 1, none⟩ (.slice A 0 c)).setCell ⟨w.heap.size, 2, none⟩ (.string ⟨#[]⟩)).alloc (.cells #[.int .i64 3, .slice A 0 c, .string ⟨#[]⟩] 82)) = w3 at *
    have k0 : w3.cell? ⟨w.heap.size, 0, none⟩ = some (.int .i64 3) := HB3.out.cell 0
    have k1 : w3.cell? ⟨w.heap.size, 1, none⟩ = some (.slice A 0 c) := HB3.out.cell 1
    have k2 : w3.cell? ⟨w.heap.size, 2, none⟩ = some (.string ⟨#[]⟩) := HB3.out.cell 2
    refine bodyPost_ret (v := .tuple #[.agg #[.int .i64 3, (.slice A 0 c), .string ⟨#[]⟩], .int .i64 k, .bool false]) (by simp [results, Tryd.results77, go_sem, k0, k1, k2]) rfl ⟨⟨⟨3, [], ByteArray.empty⟩, A, c⟩, k, false, ?_, hs3, ?_, HNW.out, ?_⟩

    · unfold FrmV.agg
      simp only [List.length_nil, empty_str]
    · intro h; cases h
    · rw [restF_num (by decide : (3 : Int) ≠ 2) (by rw [HRM.out, HR1.out]; rfl)]; rfl
  | true =>
    have hsz : s.data.toList.length = s.size := rfl
    have HNU := Lib.hid (show numUp s.data.toList 0 (readK 3) = some (L, k) by rw [HRM.out, HR1.out]; rfl)
    obtain ⟨a1, a2, a3, a4⟩ := numUp_inv (Nat.zero_le _) 2 L k (by rw [HR1.out]; rfl)
    rw [hsz] at a2
    have HNO := Lib.hid (fun h => restF_no HNU.out h)
    have HYES := Lib.hid (fun h => restF_yes HNU.out h)
    match L, a1 with
    | [x, y], _ =>
    obtain ⟨y0, y1⟩ := a4 y (by simp)
    obtain ⟨x0, x1⟩ := a4 x (by simp)
    obtain ⟨l, rfl⟩ : ∃ l : Nat, y = l := ⟨y.toNat, by omega⟩
    simp only [show ith [x, (l : Int)] 1 = (l : Int) from rfl, show ith [x, (l : Int)] 0 = x from rfl, Int.toNat_natCast, hsz] at HNO HYES
    obtain ⟨A', cap', hve, hcap, hmx, hA⟩ := HL1.out.shape
    simp only [List.map_cons, List.map_nil, List.length_cons, List.length_nil, Value.slice.injEq] at hve
    obtain ⟨rfl, _, rfl⟩ := hve
    rcases hA with ⟨_, h0, _⟩ | ⟨q, rfl⟩
    · simp at h0
    have e0 : w1.cell? ⟨q, 0, none⟩ = some (.int .i64 x) := HL1.out.cell rfl (i := 0) (j := 0) rfl rfl
    have e1 : w1.cell? ⟨q, 1, none⟩ = some (.int .i64 l) := HL1.out.cell rfl (i := 1) (j := 0) rfl rfl
    have lq : q < w1.heap.size := HL1.out.lt q (by simp [Value.ownBlock])
    have hc2 : (1 : Int) ≤ (c : Int) := by simp at hcap; omega
    have hc3 : 2 ≤ c := by simpa using hcap
    unfold maxLen at hmx
    have hzz := HZ.out
    have hkk : k ≤ 9223372036854775807 := by omega
    clear a3 a4 hcap
    by_cases h20 : 20 < l
    · have h20' : (20 : Int) < (l : Int) := by omega
      have HR := Lib.hid (HNO.out (by omega))
      trace "P"; go_wp2_with fail
      have HB3 := Lib.hid ((st3 HBR1.out (.int .i64 3) (.slice (some ⟨q, 0, none⟩) 1 c) (.string ⟨#[]⟩)).alloc (.cells #[.int .i64 3, .slice (some ⟨q, 0, none⟩) 1 c, .string ⟨#[]⟩] 82))
      have HO3 := Lib.hid ((out3 w1 w.heap.size (.int .i64 3) (.slice (some ⟨q, 0, none⟩) 1 c) (.string ⟨#[]⟩)).alloc (.cells #[.int .i64 3, .slice (some ⟨q, 0, none⟩) 1 c, .string ⟨#[]⟩] 82))
      have hs3 := hs1.out' HO3.out (fun k hk => by have : k = w.heap.size := by simpa using hk
                                                   omega)
      generalize ((((w1.setCell ⟨w.heap.size, 0, none⟩ (.int .i64 3)).setCell ⟨w.heap.size, 1, none⟩ (.slice (some ⟨q, 0, none⟩) 1 c)).setCell ⟨w.heap.size, 2, none⟩ (.string ⟨#[]⟩)).alloc (.cells #[.int .i64 3, .slice (some ⟨q, 0, none⟩) 1 c, .string ⟨#[]⟩] 82)) = w3 at *
      have k0 : w3.cell? ⟨w.heap.size, 0, none⟩ = some (.int .i64 3) := HB3.out.cell 0
      have k1 : w3.cell? ⟨w.heap.size, 1, none⟩ = some (.slice (some ⟨q, 0, none⟩) 1 c) := HB3.out.cell 1
      have k2 : w3.cell? ⟨w.heap.size, 2, none⟩ = some (.string ⟨#[]⟩) := HB3.out.cell 2
      refine bodyPost_ret (v := .tuple #[.agg #[.int .i64 3, (.slice (some ⟨q, 0, none⟩) 1 c), .string ⟨#[]⟩], .int .i64 0, .bool false]) (by simp [results, Tryd.results77, go_sem, k0, k1, k2]) rfl ⟨⟨⟨3, [x], ByteArray.empty⟩, some ⟨q, 0, none⟩, c⟩, 0, false, ?_, hs3, ?_, HNW.out, ?_⟩

      · unfold FrmV.agg
        simp only [List.length_cons, List.length_nil, empty_str]
        rfl
      · intro h; cases h
      · rw [HR.out]; rfl
    have h20' : decide ((20 : Int) < (l : Int)) = false := by simp; omega
    have hkl : (k : Int) + (l : Int) = ((k + l : Nat) : Int) := by omega
    obtain ⟨k5, hk5⟩ : ∃ k5, k + l = k5 := ⟨_, rfl⟩
    rw [hk5] at hkl
    have HK5 := Lib.hid hk5
    have hl20 : l ≤ 20 := by omega
    have hk6 : k ≤ k5 := by omega
    have hk7 : k5 ≤ 9223372036854775827 := by omega
    clear hk5 h20
    by_cases hfar : s.size < k5
    · have hfar' : (s.size : Int) < (k5 : Int) := by omega
      have HR := Lib.hid (HNO.out (fun h => by omega))
      have hkf : k5 ≤ 9223372036854775807 := by have := HZ2.out; omega
      trace "Q"; go_wp2_with fail
      have HB3 := Lib.hid ((st3 HBR1.out (.int .i64 3) (.slice (some ⟨q, 0, none⟩) 1 c) (.string ⟨#[]⟩)).alloc (.cells #[.int .i64 3, .slice (some ⟨q, 0, none⟩) 1 c, .string ⟨#[]⟩] 82))
      have HO3 := Lib.hid ((out3 w1 w.heap.size (.int .i64 3) (.slice (some ⟨q, 0, none⟩) 1 c) (.string ⟨#[]⟩)).alloc (.cells #[.int .i64 3, .slice (some ⟨q, 0, none⟩) 1 c, .string ⟨#[]⟩] 82))
      have hs3 := hs1.out' HO3.out (fun k hk => by have : k = w.heap.size := by simpa using hk
                                                   omega)
      generalize ((((w1.setCell ⟨w.heap.size, 0, none⟩ (.int .i64 3)).setCell ⟨w.heap.size, 1, none⟩ (.slice (some ⟨q, 0, none⟩) 1 c)).setCell ⟨w.heap.size, 2, none⟩ (.string ⟨#[]⟩)).alloc (.cells #[.int .i64 3, .slice (some ⟨q, 0, none⟩) 1 c, .string ⟨#[]⟩] 82)) = w3 at *
      have k0 : w3.cell? ⟨w.heap.size, 0, none⟩ = some (.int .i64 3) := HB3.out.cell 0
      have k1 : w3.cell? ⟨w.heap.size, 1, none⟩ = some (.slice (some ⟨q, 0, none⟩) 1 c) := HB3.out.cell 1
      have k2 : w3.cell? ⟨w.heap.size, 2, none⟩ = some (.string ⟨#[]⟩) := HB3.out.cell 2
      refine bodyPost_ret (v := .tuple #[.agg #[.int .i64 3, (.slice (some ⟨q, 0, none⟩) 1 c), .string ⟨#[]⟩], .int .i64 0, .bool false]) (by simp [results, Tryd.results77, go_sem, k0, k1, k2]) rfl ⟨⟨⟨3, [x], ByteArray.empty⟩, some ⟨q, 0, none⟩, c⟩, 0, false, ?_, hs3, ?_, HNW.out, ?_⟩

      · unfold FrmV.agg
        simp only [List.length_cons, List.length_nil, empty_str]
        rfl
      · intro h; cases h
      · rw [HR.out]; rfl
    have hfar' : decide ((s.size : Int) < (k5 : Int)) = false := by simp; omega
    have hfr2 : (k5 : Int) ≤ (s.size : Int) := by omega
    have hk68 : (k : Int) ≤ (k5 : Int) := by omega
    have HR := Lib.hid (HYES.out (by omega))
    have hkf : k5 ≤ 9223372036854775807 := by omega
    have HDT : Hid ((⟨((s.data.toList.drop k).take l).toArray⟩ : ByteArray) = s.extract k k5) := Lib.hid (ba_ext (by
      rw [ByteArray.data_extract, Array.toList_extract, List.extract_eq_take_drop]
      simp only
      rw [show k5 - k = l by have := HK5.out; omega]))
    have hds : (s.extract k k5).size ≤ 20 := by rw [ByteArray.size_extract]; have := HK5.out; omega
    have HDS := Lib.hid hds
    clear hfar hds
    trace "R"; go_wp2_with fail
    have HB3 := Lib.hid ((st3 HBR1.out (.int .i64 3) (.slice (some ⟨q, 0, none⟩) 1 c) (.string (s.extract k k5))).alloc (.cells #[.int .i64 3, .slice (some ⟨q, 0, none⟩) 1 c, .string (s.extract k k5)] 82))
    have HO3 := Lib.hid ((out3 w1 w.heap.size (.int .i64 3) (.slice (some ⟨q, 0, none⟩) 1 c) (.string (s.extract k k5))).alloc (.cells #[.int .i64 3, .slice (some ⟨q, 0, none⟩) 1 c, .string (s.extract k k5)] 82))
    have hs3 := hs1.out' HO3.out (fun k hk => by have : k = w.heap.size := by simpa using hk
                                                 omega)
    generalize ((((w1.setCell ⟨w.heap.size, 0, none⟩ (.int .i64 3)).setCell ⟨w.heap.size, 1, none⟩ (.slice (some ⟨q, 0, none⟩) 1 c)).setCell ⟨w.heap.size, 2, none⟩ (.string (s.extract k k5))).alloc (.cells #[.int .i64 3, .slice (some ⟨q, 0, none⟩) 1 c, .string (s.extract k k5)] 82)) = w3 at *
    have k0 : w3.cell? ⟨w.heap.size, 0, none⟩ = some (.int .i64 3) := HB3.out.cell 0
    have k1 : w3.cell? ⟨w.heap.size, 1, none⟩ = some (.slice (some ⟨q, 0, none⟩) 1 c) := HB3.out.cell 1
    have k2 : w3.cell? ⟨w.heap.size, 2, none⟩ = some (.string (s.extract k k5)) := HB3.out.cell 2
    refine bodyPost_ret (v := .tuple #[.agg #[.int .i64 3, (.slice (some ⟨q, 0, none⟩) 1 c), .string (s.extract k k5)], .int .i64 k5, .bool true]) (by simp [results, Tryd.results77, go_sem, k0, k1, k2]) rfl ⟨⟨⟨3, [x], s.extract k k5⟩, some ⟨q, 0, none⟩, c⟩, k5, true, ?_, hs3, ?_, HNW.out, ?_⟩

    · rfl
    · intro _
      refine ⟨by unfold okI; simp only; omega, by have := HDS.out; unfold maxLen; simp only; omega, ⟨fun z hz => by rw [List.mem_singleton.1 hz]; omega, some ⟨q, 0, none⟩, c, rfl, by simp; omega, by unfold maxLen; omega, fun _ => ⟨q, 0, rfl, by have := HO3.out.size; omega, fun i hi => ?_⟩⟩⟩
      have : i = 0 := by simpa using hi
      subst this
      have hl3 := HL1.out.far HBR1.out (by decide) HO3.out
      have := hl3.cell rfl (i := 0) (j := 0) (e := intRow x) (u := .int .i64 x) rfl rfl
      show _ = some (Value.int .i64 x)
      simpa using this
    · rw [HR.out, HDT.out, HK5.out]; rfl

theorem frest (kind : Int) (s : ByteArray) (w : World) (h1 : 1 ≤ kind) (h8 : kind ≤ 8) (hz : s.size ≤ 9223372036854775707) (hK : KTab w) (hC : CTab w) :
    Calls Tryd.prog 77 #[.int .i64 kind, .string s] w fun e w' => ∃ (p : FrmV) (n : Nat) (ok : Bool), e = .returned (.tuple #[p.agg, .int .i64 n, .bool ok]) ∧ Below w.heap.size w w' ∧ (ok = true → FrmIn w' p) ∧ newA p.A w.heap.size ∧ restF kind s.data.toList = if ok = true then some (p.f, n) else none := by
  by_cases h2 : kind = 2
  · subst h2; exact frest_ack s w (by omega) hK
  by_cases h3 : kind = 3
  · subst h3; exact frest_str s w hz hK hC
  obtain ⟨k, rfl⟩ : ∃ k : Nat, kind = k := ⟨kind.toNat, by omega⟩
  exact frest_num k s w (by omega) (by omega) (by omega) (by omega) (by omega) hK hC
end Go.Proofs.YthnolkbolmbkdaaDoor
