/- Contract of packet.Bytes. Condition: the frames can be read and are right, the number is new. -/
import Derived.Test.YthnolkbolmbkdaaDoorPkH
namespace Go.Proofs.YthnolkbolmbkdaaDoor
open Go.ChangeShapes Go.WideShapes Go.ChangeAt Go.RowKit
set_option linter.unusedVariables false

theorem elem_of_frm {L : List FrmV} {i : Nat} (h : i < L.length) : (L.map frmRow)[i]? = some (frmRow L[i]) := by rw [List.getElem?_map, List.getElem?_eq_getElem h]; rfl
theorem Rd.frm {w : World} {A : Option Addr} {n cap : Nat} {L : List FrmV} (h : Rd w 3 (.slice A n cap) (L.map frmRow)) {i : Nat} (hi : i < L.length) : ∃ b off, A = some ⟨b, off, none⟩ ∧ b < w.heap.size ∧ ∀ w', Since w w' → ∀ j (hj : j < L.length), w'.cell? ⟨b, off + j * 3, none⟩ = some (.int .i64 L[j].f.kind) ∧ w'.cell? ⟨b, off + j * 3 + 1, none⟩ = some (.slice L[j].A L[j].f.nums.length L[j].cap) ∧ w'.cell? ⟨b, off + j * 3 + 2, none⟩ = some (.string L[j].f.data) := by
  obtain ⟨A', cap', hv, _, _, hc⟩ := h.shape
  obtain ⟨b, off, hA, hlt, _⟩ := hc (by intro he; have := congrArg List.length he; simp at this; subst this; simp at hi)
  simp only [Value.slice.injEq] at hv
  obtain ⟨rfl, _, _⟩ := hv
  subst hA
  refine ⟨b, off, rfl, hlt, fun w' hs j hj => ?_⟩
  have hh := h.later hs
  exact ⟨hh.at_ (elem_of_frm hj) (j := 0) rfl, by rw [Nat.add_assoc]; exact hh.at_ (elem_of_frm hj) (j := 1) rfl, by rw [Nat.add_assoc]; exact hh.at_ (elem_of_frm hj) (j := 2) rfl⟩
theorem frmsB_take {L : List FrmV} {i : Nat} (h : i < L.length) : frmsB ((L.take (i + 1)).map (·.f)) = frmsB ((L.take i).map (·.f)) ++ frmB L[i].f := by
  rw [List.take_succ_eq_append_getElem h, List.map_append, frmsB_append]
  simp [frmsB]
theorem frmsB_short {M : List Frm} (h : ∀ f ∈ M, frmE f = 0) : (frmsB M).length ≤ 120 * M.length := by
  induction M with
  | nil => simp [frmsB]
  | cons f M ih =>
    have h1 := frmB_len f (h f (by simp))
    have h2 := ih (fun g hg => h g (by simp [hg]))
    have e : frmsB (f :: M) = frmB f ++ frmsB M := rfl
    rw [e, List.length_append, List.length_cons]; omega

set_option maxHeartbeats 3200000 in
set_option maxRecDepth 100000 in
theorem pkbytes (x known : Int) (A : Option Addr) (n cap : Nat) (L : List FrmV) (w : World) (hn : L.length = n) (h12 : n ≤ 12) (h : FrmsIn w (.slice A n cap) L) (hE : frmsE (L.map (·.f)) = 0) (hN : NeedOk x known) (hK : KTab w) :
    Calls Tryd.prog 86 #[.int .i64 x, .int .i64 known, .slice A n cap] w fun e w' => e = .returned (.string ⟨(pktB x known (L.map (·.f))).toArray⟩) ∧ Below w.heap.size w w' := by
  have HN := Lib.hid hn
  have H := Lib.hid h
  have HK := Lib.hid hK
  have HEA : Hid (∀ i (hi : i < L.length), frmE L[i].f = 0) := Lib.hid (fun i hi => frmsE_all hE _ (List.mem_map.2 ⟨L[i], List.getElem_mem _, rfl⟩))
  have HSH : Hid (∀ i, i ≤ n → (frmsB ((L.take i).map (·.f))).length ≤ 1440) := Lib.hid (fun i hi => by
    have := frmsB_short (M := (L.take i).map (·.f)) (fun f hf => by
      obtain ⟨p, hp, rfl⟩ := List.mem_map.1 hf
      exact frmsE_all hE _ (List.mem_map.2 ⟨p, List.mem_of_mem_take hp, rfl⟩))
    rw [List.length_map, List.length_take] at this
    omega)
  obtain ⟨⟨n1, n2⟩, k1, k2⟩ := hN
  obtain ⟨b1, b2⟩ := leastN_bounds (x - known)
  have hhl := headB_len (n := x) b1 b2
  have PH := Lib.hid (fun W => phead x (leastN (x - known)) W n1 n2 b1 b2)
  have HPK : Hid (pktB x known (L.map (·.f)) = headB x (leastN (x - known)) ++ frmsB (L.map (·.f))) := Lib.hid rfl
  have HLS := Lib.hid (fun W => least_any x known (by omega) (by omega) (by omega) W)
  generalize headB x (leastN (x - known)) = hd at *
  generalize leastN (x - known) = lst at *
  clear hn h hE hK
  go_enter Tryd.func86, Tryd.ntmps86
  go_wp2_with fail
  refine (HLS.out _).mono ?_
  rintro e w1 ⟨rfl, rfl⟩
  go_wp2_with fail
  refine (PH.out _).mono ?_
  rintro e w1 ⟨rfl, hb1⟩
  have hs1 : Since w w1 := hb1
  clear hb1
  trace "A"; go_wp2_with fail
  go_loopw [7, 17] (fun s7 s17 wr => ∃ i : Nat, s17 = .int .i64 i ∧ i ≤ n ∧ s7 = .string ⟨(hd ++ frmsB ((L.take i).map (·.f))).toArray⟩ ∧ Since w wr) (fun _ s17 _ => n - (intOf s17).toNat)
  case atStart => exact ⟨0, rfl, Nat.zero_le _, by simp [frmsB], hs1⟩
  case round =>
    obtain ⟨i, rfl, hi, rfl, hs⟩ := hrel
    by_cases hlt : i < n
    case neg =>
      obtain rfl : i = n := by omega
      have hf : decide ((i : Int) < (i : Int)) = false := by simp
      have hz : Hid (L.take i = L) := Lib.hid (List.take_of_length_le (by rw [HN.out]; exact Nat.le_refl _))
      trace "B"; go_wp2_with fail
      go_ret
      exact ⟨by rw [HPK.out, hz.out]; rfl, hs⟩
    have hlt' : (i : Int) < (n : Int) := by omega
    have hil : i < L.length := by rw [HN.out]; exact hlt
    obtain ⟨b, off, rfl, hbl, hc⟩ := H.out.rd.frm hil
    obtain ⟨c0, c1, c2⟩ := hc wr hs i hil
    have lb : b < wr.heap.size := Nat.lt_of_lt_of_le hbl hs.le
    have HT := Lib.hid (frmsB_take hil)
    have HPI := Lib.hid (H.out.each L[i] (List.getElem_mem hil))
    have HEI := Lib.hid (HEA.out i hil)
    have hsh := HSH.out (i + 1) (by omega)
    rw [HT.out, List.length_append] at hsh
    clear hc
    generalize L[i] = p at *
    obtain ⟨U, hU⟩ : ∃ U, hd ++ frmsB ((L.take i).map (·.f)) = U := ⟨_, rfl⟩
    have hUl : U.length + (frmB p.f).length ≤ 1445 := by rw [← hU, List.length_append]; omega
    have HU := Lib.hid hU
    rw [hU]
    have hov : U.length + (frmB p.f).length ≤ 9223372036854775807 := by omega
    have FB := Lib.hid (fun W h1 h2 => fbytes p W h1 HEI.out h2)
    unfold FrmV.agg at FB
    clear hU hsh hil
    trace "C"; go_wp2_with fail
    refine (FB.out _ (HPI.out.later (by refine Since.out ?_; repeat (first | with_reducible assumption | with_reducible exact Since.refl _ | with_reducible refine Since.later ?_ (by with_reducible assumption) | with_reducible refine Since.only ?_ (by with_reducible assumption) (by first | assumption | omega | (simp; done) | (simp; omega)) | with_reducible refine Since.alloc ?_ _ | with_reducible refine Since.drewN ?_ _ | with_reducible refine Since.drew ?_ | with_reducible refine Since.set ?_ (by first | assumption | omega | (simp; done) | (simp; omega)) _))) (HK.out.later (by refine Since.out ?_; repeat (first | with_reducible assumption | with_reducible exact Since.refl _ | with_reducible refine Since.later ?_ (by with_reducible assumption) | with_reducible refine Since.only ?_ (by with_reducible assumption) (by first | assumption | omega | (simp; done) | (simp; omega)) | with_reducible refine Since.alloc ?_ _ | with_reducible refine Since.drewN ?_ _ | with_reducible refine Since.drew ?_ | with_reducible refine Since.set ?_ (by first | assumption | omega | (simp; done) | (simp; omega)) _)))).mono ?_
    rintro e w2 ⟨rfl, hb2⟩
    have hs2 : Since w w2 := (by refine Since.out ?_; repeat (first | with_reducible assumption | with_reducible exact Since.refl _ | with_reducible refine Since.later ?_ (by with_reducible assumption) | with_reducible refine Since.only ?_ (by with_reducible assumption) (by first | assumption | omega | (simp; done) | (simp; omega)) | with_reducible refine Since.alloc ?_ _ | with_reducible refine Since.drewN ?_ _ | with_reducible refine Since.drew ?_ | with_reducible refine Since.set ?_ (by first | assumption | omega | (simp; done) | (simp; omega)) _))
    clear hb2
    generalize hFB : frmB p.f = Y at *
    trace "D"; go_wp2_with fail
    go_roundw
    case rel => exact ⟨i + 1, by go_num, by omega, by rw [HT.out, ← List.append_assoc, HU.out, bapp], hs2⟩
    case measure => simp [intOf]; omega
end Go.Proofs.YthnolkbolmbkdaaDoor
