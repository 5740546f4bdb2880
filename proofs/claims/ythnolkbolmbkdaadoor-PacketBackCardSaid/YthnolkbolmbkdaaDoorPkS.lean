/- Contract of packet.Parse. Condition: the string's length is an int; the tables hold what the program's text lays. -/
import Derived.Test.YthnolkbolmbkdaaDoorPkF
import Derived.Test.YthnolkbolmbkdaaDoorFrmPs
import Derived.Test.YthnolkbolmbkdaaDoorFrm
namespace Go.Proofs.YthnolkbolmbkdaaDoor
open Go.ChangeShapes Go.WideShapes Go.ChangeAt Go.RowKit
set_option linter.unusedVariables false

theorem Tryd.elFrm : Elem Tryd.prog 94 82 3 48 := ⟨Tryd.underlying94, ⟨.agg #[.int .i64 0, .slice none 0 0, .string ByteArray.empty], rfl, by kernel_rfl⟩, by decide, by decide⟩
/-- a frame's numbers lie in none of these blocks -/
def farA (g : FrmV) (S : List Nat) : Prop := g.f.nums ≠ [] → ∀ b off, g.A = some ⟨b, off, none⟩ → b ∉ S
theorem FrmIn.out {X w9 : World} {S : List Nat} {g : FrmV} (h : FrmIn X g) (ho : Out X w9 S) (hf : farA g S) : FrmIn w9 g := by
  obtain ⟨h1, A, cap, h2, h3, h4, h5⟩ := h.nums
  refine ⟨h.kind, h.data, h1, A, cap, h2, h3, h4, fun hne => ?_⟩
  obtain ⟨b, off, e, hlt, hc⟩ := h5 hne
  have hA : g.A = A := by simp only [FrmV.v, Value.slice.injEq] at h2; exact h2.1
  have hbn := hf hne b off (hA.trans e)
  refine ⟨b, off, e, Nat.lt_of_lt_of_le hlt ho.size, fun i hi => ?_⟩
  rw [← hc i hi]
  unfold World.cell?
  simp only
  rw [ho.block b hlt hbn]
/-- what packet.Parse keeps -/
structure PsSt (w wr : World) (b : List UInt8) (k0 i p : Nat) (A : Option Addr) (c : Nat) (Ms : List FrmV) : Prop where
  ls : Lst wr 82 3 (.slice A i c) (Ms.map frmRow)
  each : ∀ g ∈ Ms, FrmIn wr g ∧ farA g (blocks (.slice A i c))
  new : ∀ q, q ∈ blocks (.slice A i c) → w.heap.size ≤ q
  since : Since w wr
  len : Ms.length = i
  up : rdFs b k0 i = some (Ms.map (·.f), p)
  le : p ≤ b.length
  ip : k0 + i ≤ p
theorem farA_lt {w : World} {g : FrmV} {q : Nat} (h : FrmIn w g) (hq : w.heap.size ≤ q) : farA g [q] := by
  intro hne b off hA
  obtain ⟨_, A, cap, h2, _, _, h5⟩ := h.nums
  obtain ⟨b', off', e, hlt, _⟩ := h5 hne
  have hA2 : g.A = A := by simp only [FrmV.v, Value.slice.injEq] at h2; exact h2.1
  rw [hA2, e] at hA
  have : b' = b := by injection hA with h1; injection h1
  simp; omega
/-- a round: the frame g, read in W (from wr on), is put behind -/
theorem PsSt.step {w wr W w9 : World} {b : List UInt8} {k0 i p n q9 c c9 : Nat} {A : Option Addr} {Ms : List FrmV} {g : FrmV} {o1 o2 : Obj} (h : PsSt w wr b k0 i p A c Ms) (hb : Below wr.heap.size wr W) (hg : FrmIn W g) (hn : newA g.A wr.heap.size)
    (hr : readF (b.drop p) = some (g.f, n)) (hp : p < b.length)
    (hl : Lst w9 82 3 (.slice (some ⟨q9, 0, none⟩) (i + 1) c9) (Ms.map frmRow ++ [frmRow g])) (ho : Out ((W.alloc o1).alloc o2) w9 (blocks (.slice A i c))) (hq : q9 ∈ blocks (.slice A i c) ∨ q9 = ((W.alloc o1).alloc o2).heap.size) :
    PsSt w w9 b k0 (i + 1) (p + n) (some ⟨q9, 0, none⟩) c9 (Ms ++ [g]) := by
  have hWX : Below W.heap.size W ((W.alloc o1).alloc o2) := ((Since.refl W).alloc o1).alloc o2
  have hwX : Below wr.heap.size wr ((W.alloc o1).alloc o2) := (Since.later (w := wr) hb hWX)
  have hsz : W.heap.size ≤ ((W.alloc o1).alloc o2).heap.size := hWX.size
  have hgX : FrmIn ((W.alloc o1).alloc o2) g := hg.later hWX
  have hold : ∀ q, q ∈ blocks (.slice A i c) → q < wr.heap.size := h.ls.lt
  have hgf : farA g (blocks (.slice A i c)) := fun _ b' off' hA hm => by have := hn b' off' hA; have := hold b' hm; omega
  refine ⟨by rw [List.map_append]; exact hl, fun g' hg' => ?_, fun q hqm => ?_, (h.since.later hwX).out' ho h.new, by rw [List.length_append, h.len]; rfl, ?_, ?_, by have := (readF_inv hr).2.1; have := h.ip; omega⟩
  · have key : ∀ x : FrmV, FrmIn ((W.alloc o1).alloc o2) x → farA x (blocks (.slice A i c)) → FrmIn w9 x ∧ farA x (blocks (.slice (some ⟨q9, 0, none⟩) (i + 1) c9)) := fun x hx hxf => by
      refine ⟨hx.out ho hxf, fun hne b' off' hA hm => ?_⟩
      have hm' : q9 = b' := by simpa [Value.ownBlock] using hm
      subst hm'
      rcases hq with hq | hq
      · exact hxf hne q9 off' hA hq
      · exact farA_lt hx (Nat.le_of_eq hq.symm) hne q9 off' hA (by simp)
    rcases List.mem_append.1 hg' with hm | hm
    · obtain ⟨e1, e2⟩ := h.each g' hm
      exact key g' (e1.later hwX) e2
    · rw [List.mem_singleton.1 hm]; exact key g hgX hgf
  · have hm' : q9 = q := by simpa [Value.ownBlock] using hqm
    rw [← hm']
    rcases hq with hq | hq
    · exact h.new q9 hq
    · rw [hq]; have := h.since.le; have := hwX.size; omega
  · rw [List.map_append]; exact rdFs_yes h.up hp hr
  · have := (readF_inv hr).2.2.1; rw [List.length_drop] at this; omega
theorem op_bad {b : List UInt8} {next k : Int} (h : openE b next = k) (hk : k ≠ 0) : openN b next = 0 ∧ openL b next = [] := by
  unfold openN openL; rw [if_neg (by rw [h]; exact hk), if_neg (by rw [h]; exact hk)]; exact ⟨rfl, rfl⟩
theorem op_may {b : List UInt8} {next : Int} (h : ¬ MayBe next) : openE b next = 1 := by unfold openE; rw [if_neg h]
theorem op_big {b : List UInt8} {next : Int} (h : MayBe next) (h2 : 200 < b.length) : openE b next = 4 := by unfold openE; rw [if_pos h, if_pos h2]
theorem op_head {b : List UInt8} {next : Int} (h : MayBe next) (h2 : ¬ 200 < b.length) (h3 : ¬ HeadOk b next) : openE b next = 2 := by unfold openE; rw [if_pos h, if_neg h2, if_neg h3]
theorem op_none {b : List UInt8} {next : Int} (h : MayBe next) (h2 : ¬ 200 < b.length) (h3 : HeadOk b next) (h4 : openF b = none) : openE b next = 2 := by unfold openE; rw [if_pos h, if_neg h2, if_pos h3, h4]
theorem op_some {b : List UInt8} {next : Int} {L : List Frm} (h : MayBe next) (h2 : ¬ 200 < b.length) (h3 : HeadOk b next) (h4 : openF b = some L) : openE b next = 0 ∧ openN b next = wholeN (cutOf b (bat b 0)) (bat b 0) next ∧ openL b next = L := by
  have e : openE b next = 0 := by unfold openE; rw [if_pos h, if_neg h2, if_pos h3, h4]
  unfold openN openL
  rw [if_pos e, if_pos e, h4]; exact ⟨e, rfl, rfl⟩
theorem opF_none {b : List UInt8} (h : rdFs b ((bat b 0).toNat + 1) b.length = none) : openF b = none := by unfold openF; rw [h]
theorem opF_few {b : List UInt8} {L : List Frm} {p : Nat} (h : rdFs b ((bat b 0).toNat + 1) b.length = some (L, p)) (hx : L = [] ∨ 12 < L.length) : openF b = none := by unfold openF; rw [h]; simp only; rw [if_pos hx]
theorem opF_some {b : List UInt8} {L : List Frm} {p : Nat} (h : rdFs b ((bat b 0).toNat + 1) b.length = some (L, p)) (hx : ¬ (L = [] ∨ 12 < L.length)) : openF b = some L := by unfold openF; rw [h]; simp only; rw [if_neg hx]
abbrev PkPost (b : List UInt8) (next : Int) (w : World) (e : Ending) (w' : World) : Prop := ∃ (A : Option Addr) (n c : Nat) (Ms : List FrmV), e = .returned (.tuple #[.int .i64 (openN b next), .slice A n c, errV (openE b next)]) ∧ Below w.heap.size w w' ∧ FrmsIn w' (.slice A n c) Ms ∧ Ms.length = n ∧ Ms.map (·.f) = openL b next
theorem frms0 (w : World) : FrmsIn w (.slice none 0 0) [] := ⟨by simp, Rd.nil _ _⟩

set_option maxHeartbeats 3200000 in
set_option maxRecDepth 100000 in
theorem pkparse (s : ByteArray) (next : Int) (w : World) (hz : s.size ≤ 9223372036854775707) (hK : KTab w) (hC : CTab w) :
    Calls Tryd.prog 46 #[.string s, .int .i64 next] w fun e w' => PkPost s.data.toList next w e w' := by
  have HK := Lib.hid hK
  have HC := Lib.hid hC
  have hsz : s.data.toList.length = s.size := rfl
  have PF := Lib.hid (fun h W => pfirst s next W h)
  have FP := Lib.hid (fun k W h1 h2 => fparseN (s.extract k s.size) W (Nat.le_trans (str_drop_size s k) hz) h1 h2)
  have HDR := Lib.hid (fun k => str_drop s k)
  obtain ⟨b, hb⟩ : ∃ b, s.data.toList = b := ⟨_, rfl⟩
  rw [hb] at hsz PF ⊢
  have HDB : Hid (∀ k, (s.extract k s.size).data.toList = b.drop k) := Lib.hid (fun k => by rw [HDR.out, hb])
  have HSZ := Lib.hid hsz
  clear hK hC hb HDR
  by_cases hm : MayBe next
  case neg =>
    have p1 := op_may (b := b) hm
    obtain ⟨p2, p3⟩ := op_bad p1 (by decide)
    have P1 := Lib.hid p1
    have P2 := Lib.hid p2
    have P3 := Lib.hid p3
    have hmb := Lib.hid (mayB_not hm)
    clear p1 p2 p3 hm hsz
    go_enter Tryd.func46, Tryd.ntmps46
    go_wp2_with fail
    refine (may_any next _).mono ?_
    rintro e w1 ⟨rfl, rfl⟩
    rw [hmb.out]
    trace "A"; go_wp2_with fail
    go_ret3
    exact ⟨none, 0, 0, [], by rw [P1.out, P2.out]; rfl, Below.refl _ _, frms0 _, rfl, by rw [P3.out]; rfl⟩
  have HM := Lib.hid hm
  have hmb := Lib.hid (mayB_iff.2 hm)
  clear hm
  by_cases h200 : 200 < s.size
  · have p1 := op_big (b := b) HM.out (by omega)
    obtain ⟨p2, p3⟩ := op_bad p1 (by decide)
    have P1 := Lib.hid p1
    have P2 := Lib.hid p2
    have P3 := Lib.hid p3
    have h200' : (200 : Int) < (s.size : Int) := by omega
    clear p1 p2 p3 hsz
    go_enter Tryd.func46, Tryd.ntmps46
    go_wp2_with fail
    refine (may_any next _).mono ?_
    rintro e w1 ⟨rfl, rfl⟩
    rw [hmb.out]
    trace "B"; go_wp2_with fail
    go_ret3
    exact ⟨none, 0, 0, [], by rw [P1.out, P2.out]; rfl, Below.refl _ _, frms0 _, rfl, by rw [P3.out]; rfl⟩
  have h200' : decide ((200 : Int) < (s.size : Int)) = false := by simp; omega
  have HB2 : Hid (¬ 200 < b.length) := Lib.hid (by omega)
  have hs200 : s.size ≤ 200 := by omega
  have PF2 := Lib.hid (PF.out (by omega))
  clear h200
  by_cases hh : HeadOk b next
  case neg =>
    have p1 := op_head (b := b) HM.out HB2.out hh
    obtain ⟨p2, p3⟩ := op_bad p1 (by decide)
    obtain ⟨f1, f2, f3⟩ := fir_no hh
    have P1 := Lib.hid p1
    have P2 := Lib.hid p2
    have P3 := Lib.hid p3
    rw [f1, f2, f3] at PF2
    clear p1 p2 p3 hsz f1 f2 f3 hh
    go_enter Tryd.func46, Tryd.ntmps46
    go_wp2_with fail
    refine (may_any next _).mono ?_
    rintro e w1 ⟨rfl, rfl⟩
    rw [hmb.out]
    trace "C"; go_wp2_with fail
    refine (PF2.out _).mono ?_
    rintro e w1 ⟨rfl, hb1⟩
    rw [errV_pos (by decide)]
    trace "C1"; go_wp2_with fail
    go_ret3
    exact ⟨none, 0, 0, [], by rw [P1.out, P2.out]; rfl, hb1, frms0 _, rfl, by rw [P3.out]; rfl⟩
  obtain ⟨f1, f2, f3⟩ := fir_yes hh
  obtain ⟨k0, hk0⟩ : ∃ k0, (bat b 0).toNat + 1 = k0 := ⟨_, rfl⟩
  have hk1 : bat b 0 + 1 = (k0 : Int) := by have := hh.2.1; omega
  have hkb : k0 ≤ b.length := by have := hh.2.2.2.1; omega
  rw [f1, f2, f3, hk1, errV_zero] at PF2
  have HON := Lib.hid (fun h => (op_none HM.out HB2.out hh (opF_none h)))
  have HOF := Lib.hid (fun L p h hx => (op_none HM.out HB2.out hh (opF_few (L := L) (p := p) h hx)))
  have HOS := Lib.hid (fun L p h hx => (op_some HM.out HB2.out hh (opF_some (L := L) (p := p) h hx)))
  rw [hk0] at HON HOF HOS
  have HST : Hid (∀ W, Since w W → PsSt w W b k0 0 k0 none 0 []) := Lib.hid (fun W hW => ⟨Lst.nil _ _ _, by simp, by simp [Value.ownBlock], hW, rfl, rfl, hkb, by omega⟩)
  generalize wholeN (cutOf b (bat b 0)) (bat b 0) next = N at *
  clear f1 f2 f3 hk0 hk1 hh hkb
  go_enter Tryd.func46, Tryd.ntmps46
  go_wp2_with fail
  refine (may_any next _).mono ?_
  rintro e w1 ⟨rfl, rfl⟩
  rw [hmb.out]
  trace "D"; go_wp2_with fail
  refine (PF2.out _).mono ?_
  rintro e w1 ⟨rfl, hb1⟩
  have HS1 := Lib.hid (HST.out w1 hb1)
  trace "E"; go_wp2_with fail
  go_loopw [8, 10] (fun s8 s10 wr => ∃ (i p : Nat) (A : Option Addr) (c : Nat) (Ms : List FrmV), s8 = .int .i64 p ∧ s10 = .slice A i c ∧ p ≤ s.size ∧ Hid (PsSt w wr b k0 i p A c Ms)) (fun s8 _ _ => s.size - (intOf s8).toNat)
  case atStart => exact ⟨0, k0, none, 0, [], rfl, rfl, by have := HS1.out.le; omega, HS1⟩
  case round =>
    obtain ⟨i, p, A, c, Ms, rfl, rfl, hp, HS⟩ := hrel
    have hs := Lib.hid HS.out.since
    have HML := Lib.hid HS.out.len
    by_cases hlt : p < s.size
    case neg =>
      have hf : decide ((p : Int) < (s.size : Int)) = false := by simp; omega
      have hup : rdFs b k0 b.length = some (Ms.map (·.f), p) := rdFs_end HS.out.up (by have := HSZ.out; omega) _ (by have := HS.out.ip; have := HS.out.le; omega)
      have hmm : (Ms.map (·.f)).length = i := by rw [List.length_map, HML.out]
      by_cases h0 : i = 0
      · subst h0
        have p1 := HOF.out _ _ hup (Or.inl (List.length_eq_zero_iff.1 hmm))
        obtain ⟨p2, p3⟩ := op_bad p1 (by decide)
        have P1 := Lib.hid p1
        have P2 := Lib.hid p2
        have P3 := Lib.hid p3
        clear p1 p2 p3 hup hmm
        trace "G"; go_wp2_with fail
        go_ret3
        exact ⟨none, 0, 0, [], by rw [P1.out, P2.out]; rfl, hs.out, frms0 _, rfl, by rw [P3.out]; rfl⟩
      have h0' : ((i : Int) == 0) = false := by rw [beq_eq_false_iff_ne]; omega
      by_cases h12 : 12 < i
      · have p1 := HOF.out _ _ hup (Or.inr (by rw [hmm]; exact h12))
        obtain ⟨p2, p3⟩ := op_bad p1 (by decide)
        have P1 := Lib.hid p1
        have P2 := Lib.hid p2
        have P3 := Lib.hid p3
        have h12' : (12 : Int) < (i : Int) := by omega
        clear p1 p2 p3 hup hmm h0
        trace "H"; go_wp2_with fail
        go_ret3
        exact ⟨none, 0, 0, [], by rw [P1.out, P2.out]; rfl, hs.out, frms0 _, rfl, by rw [P3.out]; rfl⟩
      obtain ⟨p1, p2, p3⟩ := HOS.out _ _ hup (fun hx => by
        rcases hx with hx | hx
        · have := congrArg List.length hx; rw [hmm] at this; exact h0 this
        · rw [hmm] at hx; exact h12 hx)
      have P1 := Lib.hid p1
      have P2 := Lib.hid p2
      have P3 := Lib.hid p3
      have h12' : decide ((12 : Int) < (i : Int)) = false := by simp; omega
      clear p1 p2 p3 hup hmm h0 h12
      trace "I"; go_wp2_with fail
      go_ret3
      exact ⟨A, i, c, Ms, by rw [P1.out, P2.out]; rfl, hs.out, ⟨fun g hg => (HS.out.each g hg).1, Rd.of_lst HS.out.ls⟩, HML.out, P3.out.symm⟩
    have hlt' : (p : Int) < (s.size : Int) := by omega
    have hp0 : (p : Int) ≤ (s.size : Int) := by omega
    have FPp := Lib.hid (FP.out p)
    rw [HDB.out] at FPp
    have hov := HSZ.out
    clear hlt
    trace "J"; go_wp2_with fail
    refine (FPp.out _ (HK.out.later hs.out) (HC.out.later hs.out)).mono ?_
    rintro e w2 ⟨g, rfl, hb2, hg2, hgf2, hgn2⟩
    cases hrd : readF (b.drop p) with
    | none =>
      obtain ⟨q1, q2, q3⟩ := pf_none hrd
      have p1 := HON.out (rdFs_none (rdFs_no HS.out.up (by omega) hrd) _ (by have := HS.out.ip; omega))
      obtain ⟨p2, p3⟩ := op_bad p1 (by decide)
      have P1 := Lib.hid p1
      have P2 := Lib.hid p2
      have P3 := Lib.hid p3
      rw [q1, q3, errV_pos (by decide)]
      have hs2 := hs.out.later hb2
      clear p1 p2 p3 q1 q2 q3 hrd hg2 hgf2 hgn2 hb2
      trace "K"; go_wp2_with fail
      go_ret3
      exact ⟨none, 0, 0, [], by rw [P1.out, P2.out]; rfl, (by refine Since.out ?_; repeat (first | with_reducible assumption | with_reducible exact Since.refl _ | with_reducible refine Since.later ?_ (by with_reducible assumption) | with_reducible refine Since.only ?_ (by with_reducible assumption) (by first | assumption | omega | (simp; done) | (simp; omega)) | with_reducible refine Since.alloc ?_ _ | with_reducible refine Since.drewN ?_ _ | with_reducible refine Since.drew ?_ | with_reducible refine Since.set ?_ (by first | assumption | omega | (simp; done) | (simp; omega)) _)), frms0 _, rfl, by rw [P3.out]; rfl⟩
    | some q =>
      obtain ⟨f, n⟩ := q
      obtain ⟨q1, q2, q3⟩ := pf_some hrd
      obtain ⟨_, r2, r3, _⟩ := readF_inv hrd
      rw [q1, q3, errV_zero]
      rw [q2] at hgf2
      rw [List.length_drop] at r3
      have HRD : Hid (readF (b.drop p) = some (g.f, n)) := Lib.hid (by rw [hrd, hgf2])
      have HLS := Lib.hid (((HS.out.ls.later hb2).alloc (.cells #[.int .i64 g.f.kind, .slice g.A g.f.nums.length g.cap, .string g.f.data] 82)).alloc (.cells #[.int .i64 g.f.kind, .slice g.A g.f.nums.length g.cap, .string g.f.data] 82))
      have HMR : Hid ((Ms.map frmRow).length = i) := Lib.hid (by rw [List.length_map, HML.out])
      have HSTEP := Lib.hid (fun q9 c9 w9 o1 o2 hl ho hq => HS.out.step (q9 := q9) (c9 := c9) (w9 := w9) (o1 := o1) (o2 := o2) hb2 hg2 hgn2 HRD.out (by omega) hl ho hq)
      have HBK := Lib.hid (BlockIs.fresh (w2.alloc (.cells #[.int .i64 g.f.kind, .slice g.A g.f.nums.length g.cap, .string g.f.data] 82)) 82 #[.int .i64 g.f.kind, .slice g.A g.f.nums.length g.cap, .string g.f.data])
      rw [World.size_alloc] at HBK
      obtain ⟨pn, hpn0⟩ : ∃ pn, p + n = pn := ⟨_, rfl⟩
      have hpn : (p : Int) + (n : Int) = (pn : Int) := by omega
      have hpn3 : p < pn := by omega
      have hpn4 : pn ≤ s.size := by omega
      rw [hpn0] at HSTEP
      clear hpn0
      have hi6 : i ≤ 200 := by have := HS.out.ip; omega
      clear q1 q2 q3 hrd hgf2 hg2 hgn2 hb2
      trace "L"; go_wp2_with (at_builtin; refine wpList_push rfl _ _ 94 rfl 82 3 48 Tryd.elFrm (.slice A i c) (Ms.map frmRow) rfl HLS.out (w2.heap.size + 1) 1 (frmRow g) rfl rfl (frmRow_one g).2 HBK.out (by rw [HMR.out]; omega) ?_; intro q9 cq w5 hl5 ho5 hq5 hlt5; rw [HMR.out] at hl5; (try rw [HMR.out]); have HN5 := Lib.hid (HSTEP.out q9 cq w5 _ _ hl5 ho5 hq5); clear hl5 ho5 hq5 hlt5)
      trace "M"; go_wp2_with fail
      go_roundw
      case rel => exact ⟨i + 1, pn, some ⟨q9, 0, none⟩, cq, Ms ++ [g], by first | rfl | (rw [hpn]), rfl, hpn4, HN5⟩
      case measure => simp [intOf]; omega
end Go.Proofs.YthnolkbolmbkdaaDoor
