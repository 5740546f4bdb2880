/- Contract of wireref2.Read. Condition: the string's length is an int. Printed by gen_rread.py. -/
import Derived.Test.YthnolkbolmbkdaaDoorRFrm1
import Derived.Test.YthnolkbolmbkdaaDoorFrmPs
import Derived.Test.YthnolkbolmbkdaaDoorRAckR
import Derived.Deep.RegionLaw
namespace Go.Proofs.YthnolkbolmbkdaaDoor
open Go.ChangeShapes Go.WideShapes Go.ChangeAt Go.RowKit
set_option linter.unusedVariables false

/-- what the reference's Read keeps -/
structure RfSt (w wr : World) (kind : Int) (M : List Int) (i : Nat) (A : Option Addr) (c : Nat) : Prop where
  bl : BlockIs wr (w.heap.size + 1) 82 #[.int .i64 kind, .slice A i c, .string ⟨#[]⟩]
  br : BlockIs wr w.heap.size 82 #[.int .i64 0, .slice none 0 0, .string ⟨#[]⟩]
  ls : Lst wr 3 1 (.slice A i c) (M.map intRow)
  len : M.length = i
  new : ∀ q, q ∈ blocks (.slice A 0 0) → w.heap.size ≤ q
  since : Since w wr
theorem RfSt.later {w wr w' : World} {kind : Int} {M : List Int} {i : Nat} {A : Option Addr} {c : Nat} (h : RfSt w wr kind M i A c) (hb : Below wr.heap.size wr w') : RfSt w w' kind M i A c :=
  ⟨h.bl.later hb, h.br.later hb, h.ls.later hb, h.len, h.new, h.since.later hb⟩
theorem RfSt.alloc {w wr : World} {kind : Int} {M : List Int} {i : Nat} {A : Option Addr} {c : Nat} (h : RfSt w wr kind M i A c) (o : Obj) : RfSt w (wr.alloc o) kind M i A c :=
  ⟨h.bl.alloc o, h.br.alloc o, h.ls.alloc o, h.len, h.new, h.since.alloc o⟩
theorem RfSt.drew {w wr : World} {kind : Int} {M : List Int} {i : Nat} {A : Option Addr} {c : Nat} (h : RfSt w wr kind M i A c) : RfSt w wr.drew kind M i A c :=
  ⟨h.bl.drew, h.br.drew, h.ls.drew, h.len, h.new, h.since.drew⟩
theorem RfSt.after {w X w9 : World} {kind : Int} {M : List Int} {i : Nat} {A : Option Addr} {c : Nat} (h : RfSt w X kind M i A c) (ho : Out X w9 (blocks (.slice A i c))) :
    Since w w9 ∧ BlockIs w9 (w.heap.size + 1) 82 #[.int .i64 kind, .slice A i c, .string ⟨#[]⟩] ∧ BlockIs w9 w.heap.size 82 #[.int .i64 0, .slice none 0 0, .string ⟨#[]⟩] :=
  ⟨h.since.out' ho (fun k hk => h.new k (by rw [blocks_any A 0 0 i c]; exact hk)), ho.block' h.bl (h.ls.apart h.bl (by decide)), ho.block' h.br (h.ls.apart h.br (by decide))⟩
theorem RfSt.step {w X w9 : World} {kind : Int} {M N : List Int} {i m : Nat} {A A9 : Option Addr} {c c9 : Nat} (h : RfSt w X kind M i A c) (ho : Out X w9 (blocks (.slice A i c)))
    (hl : Lst w9 3 1 (.slice A9 (i + m) c9) (M.map intRow ++ N.map intRow)) (hN : N.length = m) (hb : ∀ k, k ∈ blocks (.slice A9 (i + m) c9) → k ∈ blocks (.slice A i c) ∨ k = X.heap.size) :
    RfSt w (w9.setCell ⟨w.heap.size + 1, 1, none⟩ (.slice A9 (i + m) c9)) kind (M ++ N) (i + m) A9 c9 := by
  obtain ⟨hs, h1, h2⟩ := h.after ho
  refine ⟨h1.put 1 _, h2.far (by simp) _, ?_, by rw [List.length_append, h.len, hN], fun k hk => ?_, hs.set (by simp) _⟩
  · rw [List.map_append]
    exact hl.kept ((Out.refl w9 [w.heap.size + 1]).put (p := ⟨w.heap.size + 1, 1, none⟩) (Or.inl (by simp)) _) (fun k hk hk2 => hl.apart h1 (by decide) (by rw [List.mem_singleton.1 hk2] at hk; exact hk))
  · rcases hb k (by rw [blocks_any A9 0 0 (i + m) c9] at hk; exact hk) with h' | h'
    · exact h.new k (by rw [blocks_any A 0 0 i c]; exact h')
    · rw [h']; exact h.since.le
theorem Lst.apart2 {w : World} {E E' size size' : Nat} {v v' : Value} {es es' : List (List Value)} (h : Lst w E size v es) (h' : Lst w E' size' v' es') (ht : E ≠ E') : ∀ k, k ∈ blocks v → k ∉ blocks v' := by
  intro k hk hk'
  rcases h.own.2 with ⟨rfl, _⟩ | ⟨g, cap, cur, rfl, _, hgg, _⟩
  · simp [blocks, Value.ownBlock] at hk
  · rcases h'.own.2 with ⟨rfl, _⟩ | ⟨g', cap', cur', rfl, _, hgg', _⟩
    · simp [blocks, Value.ownBlock] at hk'
    · simp [blocks, Value.ownBlock] at hk hk'
      subst hk hk'
      rw [hgg] at hgg'
      simp only [Option.some.injEq, Obj.cells.injEq] at hgg'
      exact ht hgg'.2.1
theorem numUp_shift (b : List UInt8) : ∀ i, numUp b 1 i = match numUp (b.drop 1) 0 i with | none => none | some (L, k) => some (L, k + 1)
  | 0 => rfl
  | i + 1 => by
    have ih := numUp_shift b i
    cases h : numUp (b.drop 1) 0 i with
    | none => rw [h] at ih; rw [numUp, ih, numUp, h]
    | some q =>
      obtain ⟨L, k⟩ := q
      rw [h] at ih
      simp only at ih
      have hd : (b.drop 1).drop k = b.drop (k + 1) := by rw [List.drop_drop, Nat.add_comm]
      by_cases hg : getOk (b.drop (k + 1))
      · rw [numUp_yes ih hg, numUp_yes h (by rw [hd]; exact hg), hd]
        simp only [Option.some.injEq, Prod.mk.injEq, true_and]
        omega
      · rw [numUp_no ih hg, numUp_no h (by rw [hd]; exact hg)]
theorem numUp_back1 {b : List UInt8} {i k : Nat} {L : List Int} (h : numUp b 1 i = some (L, k)) : 1 ≤ k ∧ numUp (b.drop 1) 0 i = some (L, k - 1) := by
  rw [numUp_shift] at h
  cases hc : numUp (b.drop 1) 0 i with
  | none => rw [hc] at h; cases h
  | some q =>
    obtain ⟨L', k'⟩ := q
    rw [hc] at h
    simp only [Option.some.injEq, Prod.mk.injEq] at h
    obtain ⟨rfl, rfl⟩ := h
    exact ⟨by omega, rfl⟩
theorem numUp_none1 {b : List UInt8} {i : Nat} (h : numUp b 1 i = none) : numUp (b.drop 1) 0 i = none := by
  rw [numUp_shift] at h
  cases hc : numUp (b.drop 1) 0 i with
  | none => rfl
  | some q => rw [hc] at h; cases h
/-- readF by kinds -/
theorem rd_ack {b : List UInt8} (h : ¬ (b = [] ∨ bat b 0 < 1 ∨ 8 < bat b 0)) (hk : bat b 0 = 2) : readF b = match readA (b.drop 1) with | none => none | some (L, n) => some (⟨2, unpairs L, ByteArray.empty⟩, n + 1) := by
  rw [readF_rest h, hk, restF_ack]; cases readA (b.drop 1) <;> rfl
theorem readK_many {k : Int} (h : k ≠ 2) (h3 : k ≠ 3) : manyK k = (readK k : Nat) := by
  unfold manyK readK
  rw [if_neg h, if_neg h3]
  by_cases h1 : k = 1
  · rw [if_pos h1, if_pos h1]; rfl
  · rw [if_neg h1, if_neg h1]
    by_cases h7 : k = 7
    · rw [if_pos h7, if_pos h7]; rfl
    · rw [if_neg h7, if_neg h7]; rfl
theorem rd_plain {b : List UInt8} {L : List Int} {k : Nat} (h : ¬ (b = [] ∨ bat b 0 < 1 ∨ 8 < bat b 0)) (h2 : bat b 0 ≠ 2) (h3 : bat b 0 ≠ 3) (hn : numUp b 1 (readK (bat b 0)) = some (L, k)) : readF b = some (⟨bat b 0, L, ByteArray.empty⟩, k) := by
  obtain ⟨k1, hn1⟩ := numUp_back1 hn
  rw [readF_rest h, restF_plain h2 h3 hn1]
  simp only [Option.some.injEq, Prod.mk.injEq, true_and]; omega
theorem rd_num {b : List UInt8} (h : ¬ (b = [] ∨ bat b 0 < 1 ∨ 8 < bat b 0)) (h2 : bat b 0 ≠ 2) (hn : numUp b 1 (readK (bat b 0)) = none) : readF b = none := by
  rw [readF_rest h, restF_num h2 (numUp_none1 hn)]
theorem rd_no {b : List UInt8} {L : List Int} {k : Nat} (h : ¬ (b = [] ∨ bat b 0 < 1 ∨ 8 < bat b 0)) (h3 : bat b 0 = 3) (hn : numUp b 1 2 = some (L, k)) (hx : ¬ (ith L 1 ≤ 20 ∧ (k : Int) + ith L 1 ≤ b.length)) : readF b = none := by
  obtain ⟨k1, hn1⟩ := numUp_back1 hn
  have hl : 1 ≤ b.length := by
    cases b with
    | nil => exact absurd (Or.inl rfl) h
    | cons c b => simp
  rw [readF_rest h, h3, restF_no hn1 (by rw [List.length_drop]; omega)]
theorem rd_yes {b : List UInt8} {L : List Int} {k : Nat} (h : ¬ (b = [] ∨ bat b 0 < 1 ∨ 8 < bat b 0)) (h3 : bat b 0 = 3) (hn : numUp b 1 2 = some (L, k)) (hx : ith L 1 ≤ 20 ∧ (k : Int) + ith L 1 ≤ b.length) : readF b = some (⟨3, [ith L 0], ⟨((b.drop k).take (ith L 1).toNat).toArray⟩⟩, k + (ith L 1).toNat) := by
  obtain ⟨k1, hn1⟩ := numUp_back1 hn
  rw [readF_rest h, h3, restF_yes hn1 (by rw [List.length_drop]; omega)]
  simp only [Option.some.injEq, Prod.mk.injEq, Frm.mk.injEq, true_and]
  rw [List.drop_drop, show 1 + (k - 1) = k by omega]
  exact ⟨rfl, by omega⟩
abbrev RfPost (b : List UInt8) (w : World) (e : Ending) (w' : World) : Prop := ∃ (p : FrmV) (n : Nat) (ok : Bool), e = .returned (.tuple #[p.agg, .int .i64 n, .bool ok]) ∧ Below w.heap.size w w' ∧ FrmIn w' p ∧ readF b = (if ok = true then some (p.f, n) else none) ∧ (ok = false → p.f = frm0 ∧ n = 0)

set_option maxHeartbeats 6400000 in
set_option maxRecDepth 100000 in
theorem rfread_ack (s : ByteArray) (w : World) (hz : s.size ≤ 9223372036854775707) (hb : ¬ (s.data.toList = [] ∨ bat s.data.toList 0 < 1 ∨ 8 < bat s.data.toList 0)) (h2 : bat s.data.toList 0 = 2) :
    Calls Tryd.prog 44 #[.string s] w fun e w' => RfPost s.data.toList w e w' := by
  have hsz : s.data.toList.length = s.size := rfl
  have hpos : 0 < s.size := by
    rcases Nat.eq_zero_or_pos s.size with h | h
    · exact absurd (Or.inl (List.length_eq_zero_iff.1 (by omega))) hb
    · exact h
  obtain ⟨e1, e2⟩ := str_full (s := s) (by omega)
  have e0 := str_at s 0 hpos
  rw [h2] at e0
  have HRD := Lib.hid (rd_ack hb h2)
  have RA := Lib.hid (fun W => raread (s.extract 1 s.size) W (Nat.le_trans (str_drop_size s 1) (by omega)))
  rw [str_drop] at RA
  obtain ⟨b, hbb⟩ : ∃ b, s.data.toList = b := ⟨_, rfl⟩
  rw [hbb] at HRD RA hsz ⊢
  have hsl : (1 : Int) ≤ (s.size : Int) := by omega
  have hwrap : IntKind.i64.wrap 2 = 2 := by decide
  have HB0 := Lib.hid (BlockIs.fresh w 82 #[.int .i64 0, .slice none 0 0, .string ⟨#[]⟩])
  have HST : Hid (RfSt w ((w.alloc (.cells #[.int .i64 0, .slice none 0 0, .string ⟨#[]⟩] 82)).alloc (.cells #[.int .i64 2, .slice none 0 0, .string ⟨#[]⟩] 82)) 2 [] 0 none 0) := Lib.hid
    ⟨BlockIs.fresh_at (by simp), (BlockIs.fresh _ _ _).alloc _, Lst.nil _ _ _, rfl, by simp [Value.ownBlock], (by refine Since.out ?_; repeat (first | with_reducible assumption | with_reducible exact Since.refl _ | with_reducible refine Since.later ?_ (by with_reducible assumption) | with_reducible refine Since.only ?_ (by with_reducible assumption) (by first | assumption | omega | (simp; done) | (simp; omega)) | with_reducible refine Since.alloc ?_ _ | with_reducible refine Since.drewN ?_ _ | with_reducible refine Since.drew ?_ | with_reducible refine Since.set ?_ (by first | assumption | omega | (simp; done) | (simp; omega)) _))⟩
  have hbl : b.length ≤ 9223372036854775707 := by omega
  clear hb h2 hbb hz
  go_enter Tryd.func44, Tryd.ntmps44
  trace "A"; go_wp2_with fail
  refine (RA.out _).mono ?_
  rintro e w1 ⟨A1, c1, k, ok, R, rfl, hl1, hR, hb1, _, hr1⟩
  have HL1 := Lib.hid hl1
  have HST1 := Lib.hid (HST.out.later hb1)
  have HR1 := Lib.hid hr1
  clear hl1 hb1 hr1 HST
  have b0 : w1.cell? ⟨w.heap.size, 0, none⟩ = some (.int .i64 0) := HST1.out.br.cell 0
  have b1 : w1.cell? ⟨w.heap.size, 1, none⟩ = some (.slice none 0 0) := HST1.out.br.cell 1
  have b2 : w1.cell? ⟨w.heap.size, 2, none⟩ = some (.string ⟨#[]⟩) := HST1.out.br.cell 2
  have lb := HST1.out.br.lt
  have fb := HST1.out.br.free
  cases ok with
  | false =>
    have P := Lib.hid (show readF b = none by rw [HRD.out, HR1.out]; rfl)
    trace "B"; go_wp2_with fail
    have HB3 := Lib.hid (st3 HST1.out.br (.int .i64 0) (.slice none 0 0) (.string ⟨#[]⟩))
    have hs3 := (HST1.out.since).out' (out3 w1 w.heap.size (.int .i64 0) (.slice none 0 0) (.string ⟨#[]⟩)) (fun k hk => by (have : k = w.heap.size := by simpa using hk); omega)
    generalize (((w1.setCell ⟨w.heap.size, 0, none⟩ (.int .i64 0)).setCell ⟨w.heap.size, 1, none⟩ (.slice none 0 0)).setCell ⟨w.heap.size, 2, none⟩ (.string ⟨#[]⟩)) = w3 at *
    have kc0 : w3.cell? ⟨w.heap.size, 0, none⟩ = some (.int .i64 0) := HB3.out.cell 0
    have kc1 : w3.cell? ⟨w.heap.size, 1, none⟩ = some (.slice none 0 0) := HB3.out.cell 1
    have kc2 : w3.cell? ⟨w.heap.size, 2, none⟩ = some (.string ⟨#[]⟩) := HB3.out.cell 2
    refine bodyPost_ret (v := .tuple #[.agg #[.int .i64 0, .slice none 0 0, .string ⟨#[]⟩], .int .i64 0, .bool false]) (by simp [results, Tryd.results44, go_sem, kc0, kc1, kc2]) rfl ⟨⟨frm0, none, 0⟩, 0, false, by rfl, hs3, frm0_in _, by rw [P.out]; rfl, fun _ => ⟨rfl, rfl⟩⟩
  | true =>
    have P := Lib.hid (show readF b = some (⟨2, unpairs R, ByteArray.empty⟩, k + 1) by rw [HRD.out, HR1.out]; rfl)
    have hkb : k ≤ b.length := by have := (readF_inv P.out).2.2.1; omega
    have hk1 : (1 : Int) + (k : Int) = ((k + 1 : Nat) : Int) := by omega
    obtain ⟨nR, hnR⟩ : ∃ nR, R.length = nR := ⟨_, rfl⟩
    have HNR := Lib.hid hnR
    rw [hnR] at HL1 hR ⊢
    clear hnR b0 b1 b2 lb fb
    trace "C"; go_wp2_with fail
    go_loopw [9] (fun s9 wr => ∃ (i i2 : Nat) (A' : Option Addr) (c' : Nat), s9 = .int .i64 i ∧ i ≤ nR ∧ Hid (i2 = 2 * i) ∧ Hid (RfSt w wr 2 (unpairs (R.take i)) i2 A' c') ∧ Hid (Lst wr 69 2 (.slice A1 nR c1) (R.map rngRow))) (fun s9 _ => nR - (intOf s9).toNat)
    case atStart => exact ⟨0, 0, none, 0, rfl, Nat.zero_le _, Lib.hid rfl, HST1, HL1⟩
    case round =>
      obtain ⟨i, i2, A', c', rfl, hi, hi2, HS, HLR⟩ := hrel
      have d0 : wr.cell? ⟨w.heap.size + 1, 0, none⟩ = some (.int .i64 2) := HS.out.bl.cell 0
      have d1 : wr.cell? ⟨w.heap.size + 1, 1, none⟩ = some (.slice A' i2 c') := HS.out.bl.cell 1
      have d2 : wr.cell? ⟨w.heap.size + 1, 2, none⟩ = some (.string ⟨#[]⟩) := HS.out.bl.cell 2
      have ld := HS.out.bl.lt
      have fd := HS.out.bl.free
      by_cases hlt : i < nR
      case neg =>
        obtain rfl : i = nR := by omega
        have hf : decide ((i : Int) < (i : Int)) = false := by simp
        have b0 : wr.cell? ⟨w.heap.size, 0, none⟩ = some (.int .i64 0) := HS.out.br.cell 0
        have b1 : wr.cell? ⟨w.heap.size, 1, none⟩ = some (.slice none 0 0) := HS.out.br.cell 1
        have b2 : wr.cell? ⟨w.heap.size, 2, none⟩ = some (.string ⟨#[]⟩) := HS.out.br.cell 2
        have lb := HS.out.br.lt
        have fb := HS.out.br.free
        have hz : Hid (R.take i = R) := Lib.hid (List.take_of_length_le (by rw [HNR.out]; exact Nat.le_refl _))
        rw [hz.out] at HS
        have HLEN := Lib.hid HS.out.len
        trace "D"; go_wp2_with fail
        have HB3 := Lib.hid (st3 HS.out.br (.int .i64 2) (.slice A' i2 c') (.string ⟨#[]⟩))
        have HO3 := Lib.hid (out3 wr w.heap.size (.int .i64 2) (.slice A' i2 c') (.string ⟨#[]⟩))
        have hs3 := (HS.out.since).out' HO3.out (fun k hk => by (have : k = w.heap.size := by simpa using hk); omega)
        generalize (((wr.setCell ⟨w.heap.size, 0, none⟩ (.int .i64 2)).setCell ⟨w.heap.size, 1, none⟩ (.slice A' i2 c')).setCell ⟨w.heap.size, 2, none⟩ (.string ⟨#[]⟩)) = w3 at *
        have kc0 : w3.cell? ⟨w.heap.size, 0, none⟩ = some (.int .i64 2) := HB3.out.cell 0
        have kc1 : w3.cell? ⟨w.heap.size, 1, none⟩ = some (.slice A' i2 c') := HB3.out.cell 1
        have kc2 : w3.cell? ⟨w.heap.size, 2, none⟩ = some (.string ⟨#[]⟩) := HB3.out.cell 2
        have hE := (readF_inv P.out).1
        refine bodyPost_ret (v := .tuple #[.agg #[.int .i64 2, .slice A' i2 c', .string ⟨#[]⟩], .int .i64 (((k + 1) : Nat) : Int), .bool true]) (by simp [results, Tryd.results44, go_sem, kc0, kc1, kc2]) rfl ⟨⟨⟨2, (unpairs R), ⟨#[]⟩⟩, A', c'⟩, (k + 1), true, ?_, hs3, frmIn_of (n := i2) hE ((HS.out.ls).far HS.out.br (by decide) HO3.out) ?_, by rw [P.out]; rfl, fun h => by cases h⟩
        · unfold FrmV.agg
          simp only [HLEN.out]
        · exact (frmE_out hE).2.2.2.1
      have hlt' : (i : Int) < (nR : Int) := by omega
      have hil : i < R.length := by rw [HNR.out]; exact hlt
      obtain ⟨_, _, hv1, _, _, hA1⟩ := HLR.out.shape
      simp only [Value.slice.injEq] at hv1
      obtain ⟨rfl, hv2, rfl⟩ := hv1
      clear hv2
      rcases hA1 with ⟨_, hA1, _⟩ | ⟨q1, rfl⟩
      · exact absurd (congrArg List.length hA1) (by rw [List.length_map, HNR.out]; simp; omega)
      have c0 : wr.cell? ⟨q1, i * 2, none⟩ = some (.int .i64 (rat R i).lo) := by
        have := HLR.out.cell rfl (elem_of_rng (L := R) (i := i) hil) (j := 0) rfl
        rw [rat_get hil]; simpa using this
      have c1' : wr.cell? ⟨q1, i * 2 + 1, none⟩ = some (.int .i64 (rat R i).hi) := by
        have := HLR.out.cell rfl (elem_of_rng (L := R) (i := i) hil) (j := 1) rfl
        rw [rat_get hil]; simpa using this
      have lq : q1 < wr.heap.size := HLR.out.lt q1 (by simp [Value.ownBlock])
      have HT := Lib.hid (take_unpairs hil)
      have HUL : Hid (((unpairs (R.take i)).map intRow).length = i2) := Lib.hid (by rw [List.length_map, HS.out.len])
      clear hil
      generalize (rat R i).lo = lo at *
      generalize (rat R i).hi = hi3 at *
      have HNEW : Hid (∀ j u, (flat [intRow hi3, intRow lo])[j]? = some u → (wr.alloc (.cells #[.int .i64 hi3, .int .i64 lo] 3)).cell? ((⟨wr.heap.size, 0, none⟩ : Addr).add j) = some u) := Lib.hid (fun j u hj => by
        rw [addr_at, (BlockIs.fresh wr 3 #[.int .i64 hi3, .int .i64 lo]).cell]
        match j, hj with
        | 0, hj => exact hj
        | 1, hj => exact hj
        | _ + 2, hj => simp [intRow] at hj)
      trace "E"; go_wp2_with fail
      go_region_law ((refine step_cat rfl _ _ 50 rfl 3 1 8 Tryd.elInt (.slice A' i2 c') ((unpairs (R.take i)).map intRow) rfl ?_ ⟨wr.heap.size, 0, none⟩ 2 2 [intRow hi3, intRow lo] rfl rfl ?_ ?_ ?_ ?_; (first | exact (HS.out.ls.alloc _).drew | exact HS.out.ls.alloc _); (intro e he; simp at he; rcases he with rfl | rfl <;> exact intRow_one _); (exact HNEW.out); (rw [HUL.out]; have := hi2.out; simp; omega); intro A9 c9 w9 hl9 ho9 hb9; rw [HUL.out] at hl9 hb9; (try rw [HUL.out]); have HX := Lib.hid (HS.out.alloc (.cells #[.int .i64 hi3, .int .i64 lo] 3)).drew; have HX2 := Lib.hid (HLR.out.alloc (.cells #[.int .i64 hi3, .int .i64 lo] 3)).drew; have HY9 := Lib.hid (HX2.out.kept ho9 (HX2.out.apart2 HX.out.ls (by decide))); have HN9 := Lib.hid (HX.out.step (N := [hi3, lo]) (m := 2) ho9 hl9 rfl hb9); obtain ⟨hs9, hB9, hR9⟩ := HX.out.after ho9; have f9 := hB9.free; have l9 := hB9.lt; have e91 : w9.cell? ⟨w.heap.size + 1, 1, none⟩ = some (.slice A' i2 c') := hB9.cell 1; have HZ9 := Lib.hid (HY9.out.kept ((Out.refl w9 [w.heap.size + 1]).put (p := ⟨w.heap.size + 1, 1, none⟩) (Or.inl (by simp)) (.slice A9 (i2 + 2) c9)) (fun k hk hk2 => HY9.out.apart hB9 (by decide) (by rw [List.mem_singleton.1 hk2] at hk; exact hk))); clear hl9 ho9 hb9 hB9 hR9))
      all_goals
        have HN10 : Hid (RfSt w (w9.setCell ⟨w.heap.size + 1, 1, none⟩ (.slice A9 (i2 + 2) c9)) 2 (unpairs (R.take (i + 1))) (i2 + 2) A9 c9) := Lib.hid (by rw [HT.out]; exact HN9.out)
        trace "F"; go_wp2_with fail
        go_roundw
        case rel => exact ⟨i + 1, i2 + 2, A9, c9, by go_num, by omega, Lib.hid (by have := hi2.out; omega), (by first | exact HN10 | exact Lib.hid HN10.out.drew), (by first | exact HZ9 | exact Lib.hid HZ9.out.drew)⟩
        case measure => simp [intOf]; omega
end Go.Proofs.YthnolkbolmbkdaaDoor
