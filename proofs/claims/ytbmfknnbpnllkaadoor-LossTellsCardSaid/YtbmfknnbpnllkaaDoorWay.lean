/- loss.Way, and what the reference tells of packets: plain words and a contract. Condition: the slices can be read. -/
import Derived.Test.YtbmfknnbpnllkaaDoorLossLaw
namespace Go.Proofs.YtbmfknnbpnllkaaDoor
open Go.ChangeShapes Go.WideShapes Go.ChangeAt Go.RowKit
set_option linter.unusedVariables false

/-- how many bytes the first n are -/
def zsum (L : List Snt) : Nat → Int
  | 0 => 0
  | n + 1 => zsum L n + (sat L n).z
def wayN (L : List Snt) : Int := if sntE L = 0 then zsum L L.length else 0
theorem zsum_bound {L : List Snt} (h : sntE L = 0) : ∀ n, n ≤ L.length → 0 ≤ zsum L n ∧ zsum L n ≤ 200 * n
  | 0, _ => by simp [zsum]
  | n + 1, hn => by
    have ih := zsum_bound h n (by omega)
    have := snt_all h (sat L n) (by rw [sat_get (by omega)]; exact List.getElem_mem _)
    unfold zsum
    omega
set_option maxHeartbeats 1600000 in
set_option maxRecDepth 100000 in
theorem sway (A : Option Addr) (n cap : Nat) (L : List Snt) (w : World) (hn : L.length = n) (h : Rd w 3 (.slice A n cap) (L.map sntRow)) :
    Calls Tryd.prog 32 #[.slice A n cap] w fun e w' => e = .returned (.tuple #[.int .i64 (wayN L), errV (sntE L)]) ∧ Below w.heap.size w w' := by
  have H := Lib.hid h
  have HN := Lib.hid hn
  clear h hn
  go_enter Tryd.func32, Tryd.ntmps32
  go_wp2_with fail
  refine (scheck A n cap L _ HN.out H.out).mono ?_
  rintro e w1 ⟨rfl, hb1⟩
  by_cases he : sntE L = 0
  case neg =>
    have E : Hid (wayN L = 0) := Lib.hid (by unfold wayN; rw [if_neg he])
    rw [errV_pos he]
    have HE := Lib.hid (errV_pos he)
    clear he
    go_wp2_with fail
    go_ret2
    exact ⟨by rw [E.out, HE.out]; rfl, (by refine Since.out ?_; repeat (first | with_reducible assumption | with_reducible exact Since.refl _ | with_reducible refine Since.later ?_ (by with_reducible assumption) | with_reducible refine Since.only ?_ (by with_reducible assumption) (by first | assumption | omega | (simp; done) | (simp; omega)) | with_reducible refine Since.alloc ?_ _ | with_reducible refine Since.drewN ?_ _ | with_reducible refine Since.drew ?_ | with_reducible refine Since.set ?_ (by first | assumption | omega | (simp; done) | (simp; omega)) _))⟩
  have E : Hid (wayN L = zsum L n) := Lib.hid (by unfold wayN; rw [if_pos he, HN.out])
  have HB := Lib.hid (zsum_bound he)
  have hn30 : n ≤ 30 := by have := snt_len he; have := HN.out; omega
  have HS := Lib.hid (snt_all he)
  rw [he, errV_zero]
  have HE := Lib.hid he
  have hs1 : Since w w1 := hb1
  clear he hb1
  go_wp2_with fail
  go_loopw [5, 7, 15] (fun s5 s7 s15 wr => ∃ i : Nat, s15 = .int .i64 i ∧ i ≤ n ∧ s5 = .int .i64 (zsum L i) ∧ Since w1 wr) (fun _ _ s15 _ => n - (intOf s15).toNat)
  case atStart => exact ⟨0, rfl, Nat.zero_le _, rfl, Since.refl _⟩
  case round =>
    obtain ⟨i, rfl, hi, rfl, hs⟩ := hrel
    have hz := HB.out i (by rw [HN.out]; exact hi)
    by_cases hlt : i < n
    case neg =>
      obtain rfl : i = n := by omega
      have hf : decide ((i : Int) < (i : Int)) = false := by simp
      clear hz
      go_wp2_with fail
      go_ret2
      exact ⟨by rw [E.out, HE.out]; rfl, hs1.later hs⟩
    have hlt' : (i : Int) < (n : Int) := by omega
    obtain ⟨b, off, rfl, hbl, hc⟩ := H.out.snt (i := i) (by rw [HN.out]; exact hlt)
    obtain ⟨c0, c1, c2⟩ := hc wr (hs1.later hs) i (by rw [HN.out]; exact hlt)
    have lb : b < wr.heap.size := Nat.lt_of_lt_of_le hbl (hs1.later hs).le
    have hsm := HS.out (sat L i) (by rw [sat_get (by rw [HN.out]; exact hlt)]; exact List.getElem_mem _)
    have hst : zsum L (i + 1) = zsum L i + (sat L i).z := rfl
    have HST := Lib.hid hst
    generalize (sat L i).z = sz at *
    generalize (sat L i).n = sn at *
    generalize (sat L i).t = st at *
    generalize zsum L i = zi at *
    obtain ⟨_, _, _, _, z1, z2⟩ := hsm
    obtain ⟨z3, z4⟩ := hz
    have z5 : zi ≤ 6000 := by omega
    clear hc hst z4
    go_wp2_with fail
    go_roundw
    case rel => exact ⟨i + 1, by go_num, by omega, by rw [HST.out], hs.alloc _⟩
    case measure => simp [intOf]; omega
/-- is one of the first so many ranges as far, or above -/
def farB (M : List Rng) (x : Int) : Nat → Bool
  | 0 => false
  | k + 1 => farB M x k || decide (x ≤ (rat M k).hi)
theorem farB_top {M : List Rng} (h : rngE M = 0) (x : Int) : ∀ k, k ≤ M.length → farB M x k = (decide (0 < k) && decide (x ≤ (rat M 0).hi))
  | 0, _ => by simp [farB]
  | k + 1, hk => by
    rw [farB, farB_top h x k (by omega)]
    have ht := rng_top h k (by omega)
    by_cases h0 : k = 0
    · subst h0; simp
    · by_cases hx : x ≤ (rat M 0).hi
      · simp [hx]; omega
      · have hx2 : ¬ x ≤ (rat M k).hi := by omega
        simp [hx, hx2]
/-- what the reference calls lost -/
def lostBR (M : List Rng) (now wait : Int) (s : Snt) : Bool := farB M (s.n + 3) M.length || (farB M (s.n + 1) M.length && decide (wait ≤ now - s.t))
theorem lostBR_none (now wait : Int) (s : Snt) : lostBR [] now wait s = false := by simp [lostBR, farB]
theorem lostBR_eq {M : List Rng} (h : rngE M = 0) (hm : M.length ≠ 0) (now wait : Int) (s : Snt) : lostBR M now wait s = lostB (rat M 0).hi now wait s := by
  unfold lostBR lostB
  rw [farB_top h _ _ (Nat.le_refl _), farB_top h _ _ (Nat.le_refl _)]
  have hp : decide (0 < M.length) = true := by simp; omega
  rw [hp, Bool.true_and, Bool.true_and]
  congr 1
def lostRL (K : List Snt) (M : List Rng) (now wait : Int) : List Int := (K.filter (lostBR M now wait)).map Snt.n
theorem lostRL_eq {L : List Snt} {M : List Rng} {now wait : Int} (h : lostE L M now wait = 0) : lostRL (leftL L M) M now wait = lostL L M now wait := by
  have hr := (both_zero (lostE_both h).1).2
  by_cases hm : M.length = 0
  · rw [lostL_nil hm]
    have hM : M = [] := List.length_eq_zero_iff.1 hm
    subst hM
    unfold lostRL
    have : (leftL L []).filter (lostBR [] now wait) = [] := List.filter_eq_nil_iff.2 fun s _ => by rw [lostBR_none]; decide
    rw [this]
    rfl
  · rw [lostL_eq h hm]
    unfold lostRL lostOf
    congr 1
    exact List.filter_congr fun s _ => lostBR_eq hr hm now wait s
theorem leftL_snoc (L : List Snt) (M : List Rng) {i : Nat} (hi : i < L.length) : leftL (L.take (i + 1)) M = leftL (L.take i) M ++ (if inB M (sat L i).n = true then [] else [sat L i]) := by
  unfold leftL
  rw [List.take_succ_eq_append_getElem hi, List.filter_append, sat_get hi]
  cases hb : inB M L[i].n with
  | true => simp [hb]
  | false => simp [hb]
theorem lostRL_snoc (K : List Snt) (s : Snt) (M : List Rng) (now wait : Int) : lostRL (K ++ [s]) M now wait = lostRL K M now wait ++ (if lostBR M now wait s = true then [s.n] else []) := by
  unfold lostRL
  rw [List.filter_append, List.map_append]
  cases hb : lostBR M now wait s with
  | true => simp [hb]
  | false => simp [hb]
end Go.Proofs.YtbmfknnbpnllkaaDoor
