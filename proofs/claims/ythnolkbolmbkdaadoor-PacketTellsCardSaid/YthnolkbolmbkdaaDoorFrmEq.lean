/- (whole) wiresame.Frame and wiresame.Frames on frames with the same parts. Condition: the numbers can be read. -/
import Derived.Test.YthnolkbolmbkdaaDoorFrm
import Derived.Test.YthnolkbolmbkdaaDoorSameR
import Derived.Deep.RegionLaw
namespace Go.Proofs.YthnolkbolmbkdaaDoor
open Go.ChangeShapes Go.WideShapes Go.ChangeAt Go.RowKit
set_option linter.unusedVariables false

set_option maxHeartbeats 1600000 in
theorem frmeqR (p q : FrmV) (w : World) (hf : p.f = q.f) (hp : FrmIn w p) (hq : FrmIn w q) :
    Calls Tryd.prog 40 #[p.agg, q.agg] w fun e w' => e = .returned (.bool true) ∧ Below w.heap.size w w' := by
  obtain ⟨⟨k, L, d⟩, A, ca⟩ := p
  obtain ⟨f2, B, cb⟩ := q
  simp only at hf
  subst hf
  have HP := Lib.hid hp.nums
  have HQ := Lib.hid hq.nums
  clear hp hq
  simp only [FrmV.v] at HP HQ
  dsimp only [FrmV.agg]
  have FE := Lib.hid (fun W h1 h2 => inteqR (.slice A L.length ca) (.slice B L.length cb) L W h1 h2)
  obtain ⟨n, hn⟩ : ∃ n, L.length = n := ⟨_, rfl⟩
  rw [hn] at HP HQ FE ⊢
  clear hn
  have h1 : (k == k) = true := by simp
  have h2 : (d.toList == d.toList) = true := by simp
  go_enter Tryd.func40, Tryd.ntmps40
  trace "A"; go_wp2_with fail
  refine (FE.out _ (HP.out.keep (by refine Since.out ?_; repeat (first | with_reducible assumption | with_reducible exact Since.refl _ | with_reducible refine Since.later ?_ (by with_reducible assumption) | with_reducible refine Since.only ?_ (by with_reducible assumption) (by first | assumption | omega | (simp; done) | (simp; omega)) | with_reducible refine Since.alloc ?_ _ | with_reducible refine Since.drewN ?_ _ | with_reducible refine Since.drew ?_ | with_reducible refine Since.set ?_ (by first | assumption | omega | (simp; done) | (simp; omega)) _))) (HQ.out.keep (by refine Since.out ?_; repeat (first | with_reducible assumption | with_reducible exact Since.refl _ | with_reducible refine Since.later ?_ (by with_reducible assumption) | with_reducible refine Since.only ?_ (by with_reducible assumption) (by first | assumption | omega | (simp; done) | (simp; omega)) | with_reducible refine Since.alloc ?_ _ | with_reducible refine Since.drewN ?_ _ | with_reducible refine Since.drew ?_ | with_reducible refine Since.set ?_ (by first | assumption | omega | (simp; done) | (simp; omega)) _)))).mono ?_
  rintro e w1 ⟨rfl, hb1⟩
  have hs1 : Since w w1 := (by refine Since.out ?_; repeat (first | with_reducible assumption | with_reducible exact Since.refl _ | with_reducible refine Since.later ?_ (by with_reducible assumption) | with_reducible refine Since.only ?_ (by with_reducible assumption) (by first | assumption | omega | (simp; done) | (simp; omega)) | with_reducible refine Since.alloc ?_ _ | with_reducible refine Since.drewN ?_ _ | with_reducible refine Since.drew ?_ | with_reducible refine Since.set ?_ (by first | assumption | omega | (simp; done) | (simp; omega)) _))
  trace "B"; go_wp2_with fail
  go_ret
  exact ⟨rfl, hs1⟩

theorem elem_frm {L : List FrmV} {i : Nat} (h : i < L.length) : (L.map frmRow)[i]? = some (frmRow L[i]) := by rw [List.getElem?_map, List.getElem?_eq_getElem h]; rfl
theorem Rd.frmAt {w : World} {A : Option Addr} {n cap : Nat} {L : List FrmV} (h : Rd w 3 (.slice A n cap) (L.map frmRow)) {i : Nat} (hi : i < L.length) : ∃ b off, A = some ⟨b, off, none⟩ ∧ b < w.heap.size ∧ ∀ w', Since w w' → w'.cell? ⟨b, off + i * 3, none⟩ = some (.int .i64 L[i].f.kind) ∧ w'.cell? ⟨b, off + i * 3 + 1, none⟩ = some (.slice L[i].A L[i].f.nums.length L[i].cap) ∧ w'.cell? ⟨b, off + i * 3 + 2, none⟩ = some (.string L[i].f.data) := by
  obtain ⟨A', cap', hv, _, _, hc⟩ := h.shape
  obtain ⟨b, off, hA, hlt, _⟩ := hc (by intro he; have := congrArg List.length he; simp at this; subst this; simp at hi)
  simp only [Value.slice.injEq] at hv
  obtain ⟨rfl, _, _⟩ := hv
  subst hA
  refine ⟨b, off, rfl, hlt, fun w' hs => ?_⟩
  have hh := h.later hs
  exact ⟨hh.at_ (elem_frm hi) (j := 0) rfl, by rw [Nat.add_assoc]; exact hh.at_ (elem_frm hi) (j := 1) rfl, by rw [Nat.add_assoc]; exact hh.at_ (elem_frm hi) (j := 2) rfl⟩
set_option maxHeartbeats 3200000 in
set_option maxRecDepth 100000 in
theorem frmseqR (A B : Option Addr) (ca cb n : Nat) (L M : List FrmV) (w : World) (hn : L.length = n) (hLM : L.map (·.f) = M.map (·.f)) (h : FrmsIn w (.slice A n ca) L) (h' : FrmsIn w (.slice B n cb) M) :
    Calls Tryd.prog 47 #[.slice A n ca, .slice B n cb] w fun e w' => e = .returned (.bool true) ∧ Below w.heap.size w w' := by
  have hcm := (rd_cap h.rd).2
  have H := Lib.hid h
  have H' := Lib.hid h'
  have HN := Lib.hid hn
  have HM : Hid (M.length = n) := Lib.hid (by have := congrArg List.length hLM; simp at this; omega)
  have HEQ : Hid (∀ i (h1 : i < L.length) (h2 : i < M.length), L[i].f = M[i].f) := Lib.hid (fun i h1 h2 => by
    have e1 : (L.map (·.f))[i]? = some L[i].f := by rw [List.getElem?_map, List.getElem?_eq_getElem h1]; rfl
    have e2 : (M.map (·.f))[i]? = some M[i].f := by rw [List.getElem?_map, List.getElem?_eq_getElem h2]; rfl
    rw [hLM, e2] at e1
    exact (Option.some.inj e1).symm)
  have hq : ((n : Int) != (n : Int)) = false := by simp
  clear h h' hn hLM
  go_enter Tryd.func47, Tryd.ntmps47
  go_wp2_with fail
  go_loopw [5] (fun s5 wr => ∃ i : Nat, s5 = .int .i64 i ∧ i ≤ n ∧ Since w wr) (fun s5 _ => n - (intOf s5).toNat)
  case atStart => exact ⟨0, rfl, Nat.zero_le _, Since.refl _⟩
  case round =>
    obtain ⟨i, rfl, hi, hs⟩ := hrel
    by_cases hlt : i < n
    case neg =>
      obtain rfl : i = n := by omega
      have hf : decide ((i : Int) < (i : Int)) = false := by simp
      go_wp2_with fail
      go_ret
      exact ⟨rfl, (by refine Since.out ?_; repeat (first | with_reducible assumption | with_reducible exact Since.refl _ | with_reducible refine Since.later ?_ (by with_reducible assumption) | with_reducible refine Since.only ?_ (by with_reducible assumption) (by first | assumption | omega | (simp; done) | (simp; omega)) | with_reducible refine Since.alloc ?_ _ | with_reducible refine Since.drewN ?_ _ | with_reducible refine Since.drew ?_ | with_reducible refine Since.set ?_ (by first | assumption | omega | (simp; done) | (simp; omega)) _))⟩
    have hlt' : (i : Int) < (n : Int) := by omega
    have hil : i < L.length := by rw [HN.out]; exact hlt
    have him : i < M.length := by rw [HM.out]; exact hlt
    obtain ⟨ba, oa, rfl, hla, hca⟩ := H.out.rd.frmAt hil
    obtain ⟨bb, ob, rfl, hlb, hcb⟩ := H'.out.rd.frmAt him
    obtain ⟨a0, a1, a2⟩ := hca wr hs
    obtain ⟨b0, b1, b2⟩ := hcb wr hs
    have la : ba < wr.heap.size := Nat.lt_of_lt_of_le hla hs.le
    have lb : bb < wr.heap.size := Nat.lt_of_lt_of_le hlb hs.le
    have HP := Lib.hid (H.out.each L[i] (List.getElem_mem hil))
    have HQ := Lib.hid (H'.out.each M[i] (List.getElem_mem him))
    have heq := HEQ.out i hil him
    clear hca hcb
    generalize L[i] = p at *
    generalize M[i] = q at *
    have FE := Lib.hid (fun W h1 h2 => frmeqR p q W heq h1 h2)
    unfold FrmV.agg at FE
    clear heq hil him
    trace "A"; go_wp2_with fail
    go_region_law (go_simp; go_at_call 40; refine (FE.out _ (HP.out.later (by refine Since.out ?_; repeat (first | with_reducible assumption | with_reducible exact Since.refl _ | with_reducible refine Since.later ?_ (by with_reducible assumption) | with_reducible refine Since.only ?_ (by with_reducible assumption) (by first | assumption | omega | (simp; done) | (simp; omega)) | with_reducible refine Since.alloc ?_ _ | with_reducible refine Since.drewN ?_ _ | with_reducible refine Since.drew ?_ | with_reducible refine Since.set ?_ (by first | assumption | omega | (simp; done) | (simp; omega)) _))) (HQ.out.later (by refine Since.out ?_; repeat (first | with_reducible assumption | with_reducible exact Since.refl _ | with_reducible refine Since.later ?_ (by with_reducible assumption) | with_reducible refine Since.only ?_ (by with_reducible assumption) (by first | assumption | omega | (simp; done) | (simp; omega)) | with_reducible refine Since.alloc ?_ _ | with_reducible refine Since.drewN ?_ _ | with_reducible refine Since.drew ?_ | with_reducible refine Since.set ?_ (by first | assumption | omega | (simp; done) | (simp; omega)) _)))).mono ?_; rintro e w1 ⟨rfl, hb1⟩; have HS1 := Lib.hid (show Since w w1 from (by refine Since.out ?_; repeat (first | with_reducible assumption | with_reducible exact Since.refl _ | with_reducible refine Since.later ?_ (by with_reducible assumption) | with_reducible refine Since.only ?_ (by with_reducible assumption) (by first | assumption | omega | (simp; done) | (simp; omega)) | with_reducible refine Since.alloc ?_ _ | with_reducible refine Since.drewN ?_ _ | with_reducible refine Since.drew ?_ | with_reducible refine Since.set ?_ (by first | assumption | omega | (simp; done) | (simp; omega)) _))); clear hb1)
    all_goals
      have hs1 := HS1.out
      trace "B"; go_wp2_with fail
      go_roundw
      case rel => exact ⟨i + 1, by go_num, by omega, hs1⟩
      case measure => simp [intOf]; omega
end Go.Proofs.YthnolkbolmbkdaaDoor
