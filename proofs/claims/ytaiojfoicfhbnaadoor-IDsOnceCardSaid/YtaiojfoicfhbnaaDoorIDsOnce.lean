/- IDsOnce: for every limit and steps the law returns true: no name is ever used again. Condition: errors.errorType holds its handle (the row lists it, the card ties it). -/
import Derived.Test.YtaiojfoicfhbnaaDoorIdsLaw
import Derived.Test.YtaiojfoicfhbnaaDoorLaid
import Derived.Test.YtaiojfoicfhbnaaDoorRules
import Derived.Test.YtaiojfoicfhbnaaDoorSince
import Derived.Test.YtaiojfoicfhbnaaDoorIns
import Derived.Deep.DeepCutAuto
import Derived.Test.YtaiojfoicfhbnaaDoorCards
import Derived.Test.YtaiojfoicfhbnaaDoorTie
import Derived.Deep.DeepHandedRow
import Derived.LaidLaws
import Derived.LaidHandle
import Derived.Deep.DeepWitnessRowRef
import Derived.Test.YtaiojfoicfhbnaaDoorRows
import Derived.WalkKit
import Derived.ProofKit
import Derived.OpenShut
import Derived.ShutString
import Derived.ChangeOld
import Derived.Below
import Derived.Lib.SmallJoins
import Derived.Deep.Slices
import Derived.Deep.Matrix
import Derived.Deep.Strs
namespace Go.Proofs.YtaiojfoicfhbnaaDoor.iDsOnce
open Go.ChangeShapes Go.WideShapes Go.ChangeAt Go.RowKit
open Go.ChangeMaps (open_string shut_string)
set_option linter.unusedVariables false

noncomputable abbrev laidWorld := YtaiojfoicfhbnaaDoor.laidWorld
theorem laidMetW (os : Os) (args : Array Value) : laidMetH Tryd.prog Rows.iDsOnceRow.laid ((laidWorld os).forCall (fun _ _ => 0) ⟨#[], args, []⟩).memory := laidMet_et os args
theorem laidWalk {W : World} (h : laidMetH Tryd.prog Rows.iDsOnceRow.laid W) : ETok W := laid_et h
theorem errV_4 : errV 4 = .iface 79 (.int .i64 4) := rfl
theorem errV_5 : errV 5 = .iface 79 (.int .i64 5) := rfl
theorem errV_7 : errV 7 = .iface 79 (.int .i64 7) := rfl
theorem same_at (k : Int) (hk : k ≠ 0) (w : World) (h : ETok w) : Calls Tryd.prog 13 #[.iface 79 (.int .i64 k), .int .i64 k] w fun e w' => e = .returned (.bool true) ∧ Below w.heap.size w w' := by
  have e := same_yes k w h
  rw [errV_pos hk] at e
  exact e
theorem f1 : issE 1 [] [] 7 = 0 ∧ issL 1 [] [] 7 = [⟨0, 7⟩] ∧ issN 1 [] [] 7 = [7] ∧ issD 1 [] [] 7 = ⟨0, 7⟩ := by
  have h : issE 1 [] [] 7 = 0 := by decide
  exact ⟨h, (iss_ok h).1, (iss_ok h).2.1, (iss_ok h).2.2⟩
theorem f2 : issE 1 [⟨0, 7⟩] [7] 8 = 4 ∧ issL 1 [⟨0, 7⟩] [7] 8 = [⟨0, 7⟩] ∧ issN 1 [⟨0, 7⟩] [7] 8 = [7] := by
  have h : issE 1 [⟨0, 7⟩] [7] 8 = 4 := by decide
  exact ⟨h, (iss_bad (by rw [h]; decide)).1, (iss_bad (by rw [h]; decide)).2.1⟩
theorem f3 : retE [⟨0, 7⟩] 0 = 0 ∧ retL [⟨0, 7⟩] 0 = [] := ⟨by decide, rfl⟩
theorem f4 : issE 1 [] [7] 7 = 7 ∧ issL 1 [] [7] 7 = [] ∧ issN 1 [] [7] 7 = [7] := by
  have h : issE 1 [] [7] 7 = 7 := by decide
  exact ⟨h, (iss_bad (by rw [h]; decide)).1, (iss_bad (by rw [h]; decide)).2.1⟩
theorem f5 : issE 1 [] [7] 8 = 0 ∧ issD 1 [] [7] 8 = ⟨1, 8⟩ := by
  have h : issE 1 [] [7] 8 = 0 := by decide
  exact ⟨h, (iss_ok h).2.2⟩
/-- a block of one's own is none of theirs, now and later -/
def Off (h g b : Nat) (v : Value) : Prop := h ∉ g :: b :: blocks v
theorem Off.next {h g b : Nat} {v v' : Value} {w : World} (k : Off h g b v) (hl : h < w.heap.size) (hk : ∀ x, x ∈ blocks v' → x ∈ blocks v ∨ w.heap.size ≤ x) : Off h g b v' := by
  intro hm
  simp only [List.mem_cons] at hm
  rcases hm with rfl | rfl | hm
  · exact k (by simp)
  · exact k (by simp)
  · rcases hk h hm with h1 | h1
    · exact k (by simp [h1])
    · omega
/-- all theirs are new -/
def New (w : World) (g b : Nat) (v : Value) : Prop := ∀ x, x ∈ g :: b :: blocks v → w.heap.size ≤ x
theorem New.next {w wx : World} {g b : Nat} {v v' : Value} (k : New w g b v) (hs : Since w wx) (hk : ∀ x, x ∈ blocks v' → x ∈ blocks v ∨ wx.heap.size ≤ x) : New w g b v' := by
  intro x hx
  simp only [List.mem_cons] at hx
  rcases hx with rfl | rfl | hx
  · exact k _ (by simp)
  · exact k _ (by simp)
  · rcases hk x hx with h1 | h1
    · exact k x (by simp [h1])
    · have := hs.le; omega
theorem New.first {w wx w1 : World} (hs : Since w wx) (h : w1 = w1) : New w (wx.heap.size + 1) wx.heap.size (.slice none 0 0) := by
  intro x hx
  have := hs.le
  simp [Value.ownBlock] at hx
  omega

/-- what New leaves -/
def NewLeft (n : Int) (w : World) (e : Ending) (w' : World) : Prop := (1 ≤ n ∧ n ≤ 8 ∧ e = .returned (.tuple #[.pointer (some ⟨w.heap.size + 1, 0, none⟩), .nilIface]) ∧ Iz w' (w.heap.size + 1) w.heap.size (.slice none 0 0) n [] [] ∧ Below w.heap.size w w') ∨ (¬ (1 ≤ n ∧ n ≤ 8) ∧ e = .returned (.tuple #[.pointer none, .iface 79 (.int .i64 1)]) ∧ w = w')
theorem inew_split (n : Int) (w : World) : Calls Tryd.prog 32 #[.int .i64 n] w (NewLeft n w) := by
  by_cases h : 1 ≤ n ∧ n ≤ 8
  · exact (inew_yes n h.1 h.2 w).mono fun e w' ⟨a, b, c⟩ => Or.inl ⟨h.1, h.2, a, b, c⟩
  · exact (inew_no n h w).mono fun e w' ⟨a, b⟩ => Or.inr ⟨h, a, b⟩

/-- what holds at the loop's head -/
structure Loop (w wr : World) (G Bm : Nat) (v va : Value) (n : Int) (L : List One) (N : List Int) (k : Nat) : Prop where
  iz : Iz wr G Bm v n L N
  good : Good L N
  cnt : N.length ≤ k
  all : Lst wr 67 2 va ((issued N).map idRow)
  new : New w G Bm v
  far : ∀ x, x ∈ blocks va → w.heap.size ≤ x ∧ x ∉ G :: Bm :: blocks v
  since : Since w wr
theorem Loop.later {w wr wx : World} {G Bm : Nat} {v va : Value} {n : Int} {L : List One} {N : List Int} {k k' : Nat} (h : Loop w wr G Bm v va n L N k) (hb : Below wr.heap.size wr wx) (hk : k ≤ k') : Loop w wx G Bm v va n L N k' := ⟨h.iz.later hb, h.good, Nat.le_trans h.cnt hk, h.all.later hb, h.new, h.far, h.since.later hb⟩
theorem iz_drewN {w : World} {g b : Nat} {v : Value} {lim : Int} {L : List One} {N : List Int} (h : Iz w g b v lim L N) (m : Nat) : Iz (w.drewN m) g b v lim L N := ⟨h.bl, h.ls.drewN m, h.mp, h.l1, h.l2, h.few, h.most⟩
/-- what holds while it is looked for who has this name -/
structure Pend (w wr : World) (G Bm : Nat) (v va : Value) (n : Int) (L : List One) (N : List Int) (u : Int) (dd : Nat) : Prop where
  iz : Iz wr G Bm v n (L ++ [⟨(N.length : Int), u⟩]) (N ++ [u])
  all : Lst wr 67 2 va ((issued N).map idRow)
  d : BlockIs wr dd 67 #[.int .i64 N.length, .int .i64 u]
  since : Since w wr
theorem Pend.later {w wr wx : World} {G Bm : Nat} {v va : Value} {n : Int} {L : List One} {N : List Int} {u : Int} {dd : Nat} (h : Pend w wr G Bm v va n L N u dd) (hb : Below wr.heap.size wr wx) : Pend w wx G Bm v va n L N u dd := ⟨h.iz.later hb, h.all.later hb, h.d.later hb, h.since.later hb⟩
/-- behind a call on them -/
theorem Loop.call {w wr wx : World} {G Bm : Nat} {v v' va : Value} {n : Int} {L L' : List One} {N N' : List Int} {k : Nat} (h : Loop w wr G Bm v va n L N k) (hi : Iz wx G Bm v' n L' N') (ho : Out wr wx (G :: Bm :: blocks v)) (hk : ∀ x, x ∈ blocks v' → x ∈ blocks v ∨ wr.heap.size ≤ x) :
    Lst wx 67 2 va ((issued N).map idRow) ∧ New w G Bm v' ∧ (∀ x, x ∈ blocks va → w.heap.size ≤ x ∧ x ∉ G :: Bm :: blocks v') ∧ Since w wx := by
  refine ⟨h.all.kept ho (fun x hx => (h.far x hx).2), h.new.next h.since hk, fun x hx => ⟨(h.far x hx).1, fun hm => ?_⟩, h.since.out' ho h.new⟩
  simp only [List.mem_cons] at hm
  rcases hm with rfl | rfl | hm
  · exact (h.far _ hx).2 (by simp)
  · exact (h.far _ hx).2 (by simp)
  · rcases hk x hm with h1 | h1
    · exact (h.far _ hx).2 (by simp [h1])
    · have := h.all.lt x hx; omega

set_option maxRecDepth 100000 in
set_option maxHeartbeats 3200000 in
theorem walk (n : Int) (v1 : Value) (Z : List (List Int)) (w : World) (w0 : (Lit.int .i64 n).wf = true) (w1 : IntRowsIn w v1 Z) (hL : ETok w) :
    Calls Tryd.prog 10 #[.int .i64 n, v1] w fun e w' => e = .returned (.bool true) ∧ Below w.heap.size w w' := by
  have HE := Lib.hid hL
  obtain ⟨A, cap, rfl, hle0, hm0, hc⟩ := w1
  unfold maxLen at hm0
  have hZ : Z.length ≤ 9223372036854775807 := by omega
  have HC := Lib.hid hc
  have F1 := Lib.hid f1
  have F2 := Lib.hid f2
  have F3 := Lib.hid f3
  have F4 := Lib.hid f4
  have F5 := Lib.hid f5
  clear hc w0 hL
  go_enter Tryd.func10, Tryd.ntmps10
  go_wp2_with fail
  refine (inew_yes 1 (by omega) (by omega) _).mono ?_
  rintro e w1 ⟨rfl, hi1, hb1⟩
  have hs1 : Since w w1 := hb1
  have hn1 : New w (w.heap.size + 1) w.heap.size (.slice none 0 0) := New.first (w1 := w) (Since.refl w) rfl
  go_wp2_with fail
  refine (iissue _ _ _ _ _ _ 7 _ hi1).mono ?_
  rintro e w2 ⟨rfl, v2, hi2, ho2, hk2⟩
  rw [F1.out.1, F1.out.2.2.2, errV_zero]
  rw [F1.out.2.1, F1.out.2.2.1] at hi2
  have hs2 : Since w w2 := hs1.out' ho2 hn1
  have hn2 := hn1.next hs1 hk2
  go_wp2_with fail
  have hB7 : BlockIs (w2.alloc (.cells #[.int .i64 0, .int .i64 7] 67)) w2.heap.size 67 #[.int .i64 0, .int .i64 7] := BlockIs.fresh _ _ _
  have hx7 : Off w2.heap.size (w.heap.size + 1) w.heap.size v2 := by
    intro hm
    simp only [List.mem_cons] at hm
    have := hi2.bl.lt
    have := hs2.le
    have := hi2.mp.lt
    rcases hm with h | h | h
    · omega
    · omega
    · have := hi2.ls.lt _ h; omega
  have hi2' := hi2.later (w1 := w2.alloc (.cells #[.int .i64 0, .int .i64 7] 67)) (by refine Since.out ?_; repeat (first | with_reducible assumption | with_reducible exact Since.refl _ | with_reducible refine Since.later ?_ (by with_reducible assumption) | with_reducible refine Since.only ?_ (by with_reducible assumption) (by first | assumption | omega | (simp; done) | (simp; omega)) | with_reducible refine Since.alloc ?_ _ | with_reducible refine Since.drewN ?_ _ | with_reducible refine Since.drew ?_ | with_reducible refine Since.set ?_ (by first | assumption | omega | (simp; done) | (simp; omega)) _))
  have hs2' : Since w (w2.alloc (.cells #[.int .i64 0, .int .i64 7] 67)) := (by refine Since.out ?_; repeat (first | with_reducible assumption | with_reducible exact Since.refl _ | with_reducible refine Since.later ?_ (by with_reducible assumption) | with_reducible refine Since.only ?_ (by with_reducible assumption) (by first | assumption | omega | (simp; done) | (simp; omega)) | with_reducible refine Since.alloc ?_ _ | with_reducible refine Since.drewN ?_ _ | with_reducible refine Since.drew ?_ | with_reducible refine Since.set ?_ (by first | assumption | omega | (simp; done) | (simp; omega)) _))
  have hl7 : w2.heap.size < (w2.alloc (.cells #[.int .i64 0, .int .i64 7] 67)).heap.size := by simp
  clear hi1 ho2 hk2 hi2 hs1 hn1 hs2 hb1
  generalize w2.alloc (.cells #[.int .i64 0, .int .i64 7] 67) = w3 at *
  generalize w2.heap.size = h7 at *
  refine (iissue _ _ _ _ _ _ 8 _ hi2').mono ?_
  rintro e w4 ⟨rfl, v4, hi4, ho4, hk4⟩
  rw [F2.out.1, errV_4]
  rw [F2.out.2.1, F2.out.2.2] at hi4
  have hs4 : Since w w4 := hs2'.out' ho4 hn2
  have hn4 := hn2.next hs2' hk4
  have hB74 := ho4.block' hB7 hx7
  have hx74 := hx7.next hl7 hk4
  clear hi2' ho4 hk4 hs2' hn2 hB7 hx7 hl7
  have HB74 := Lib.hid hB74
  clear hB74
  go_wp2_with fail
  refine (iretire _ _ _ _ _ _ 0 _ (hi4.later (by refine Since.out ?_; repeat (first | with_reducible assumption | with_reducible exact Since.refl _ | with_reducible refine Since.later ?_ (by with_reducible assumption) | with_reducible refine Since.only ?_ (by with_reducible assumption) (by first | assumption | omega | (simp; done) | (simp; omega)) | with_reducible refine Since.alloc ?_ _ | with_reducible refine Since.drewN ?_ _ | with_reducible refine Since.drew ?_ | with_reducible refine Since.set ?_ (by first | assumption | omega | (simp; done) | (simp; omega)) _)))).mono ?_
  rintro e w5 ⟨rfl, v5, hi5, ho5, hk5⟩
  rw [F3.out.1, errV_zero]
  rw [F3.out.2] at hi5
  have hs5 : Since w w5 := (hs4.alloc _).out' ho5 hn4
  have hn5 := hn4.next (hs4.alloc _) hk5
  have hB75 := ho5.block' (HB74.out.alloc _) hx74
  have hx75 := hx74.next (Nat.lt_of_lt_of_le HB74.out.lt (by simp)) hk5
  have HB75 := Lib.hid hB75
  clear hB75 hi4 ho5 hk5 hs4 hn4 hx74 HB74
  go_wp2_with fail
  refine (iissue _ _ _ _ _ _ 7 _ hi5).mono ?_
  rintro e w6 ⟨rfl, v6, hi6, ho6, hk6⟩
  rw [F4.out.1, errV_7]
  rw [F4.out.2.1, F4.out.2.2] at hi6
  have hs6 : Since w w6 := hs5.out' ho6 hn5
  have hn6 := hn5.next hs5 hk6
  have hB76 := ho6.block' HB75.out hx75
  have hx76 := hx75.next HB75.out.lt hk6
  have HB76 := Lib.hid hB76
  clear hB76 hi5 ho6 hk6 hs5 hn5 hx75 HB75
  go_wp2_with fail
  refine (iissue _ _ _ _ _ _ 8 _ (hi6.later (by refine Since.out ?_; repeat (first | with_reducible assumption | with_reducible exact Since.refl _ | with_reducible refine Since.later ?_ (by with_reducible assumption) | with_reducible refine Since.only ?_ (by with_reducible assumption) (by first | assumption | omega | (simp; done) | (simp; omega)) | with_reducible refine Since.alloc ?_ _ | with_reducible refine Since.drewN ?_ _ | with_reducible refine Since.drew ?_ | with_reducible refine Since.set ?_ (by first | assumption | omega | (simp; done) | (simp; omega)) _)))).mono ?_
  rintro e w7 ⟨rfl, v7, hi7, ho7, hk7⟩
  rw [F5.out.1, F5.out.2, errV_zero]
  have hs7 : Since w w7 := (hs6.alloc _).out' ho7 hn6
  have hB77 := ho7.block' (HB76.out.alloc _) hx76
  have c70 : w7.cell? ⟨h7, 0, none⟩ = some (.int .i64 0) := hB77.cell 0
  have l7 := hB77.lt
  clear hB77 hi6 hi7 ho7 hk7 hs6 hn6 hx76 HB76
  repeat ((fail_if_success (with_reducible refine stop_at 11 ?_)); first | (first | (go_at_call 13; (first | ((with_reducible refine (same_at 4 (by decide) _ (HE.out.later (by refine Since.out ?_; repeat (first | with_reducible assumption | with_reducible exact Since.refl _ | with_reducible refine Since.later ?_ (by with_reducible assumption) | with_reducible refine Since.only ?_ (by with_reducible assumption) (by first | assumption | omega | (simp; done) | (simp; omega)) | with_reducible refine Since.alloc ?_ _ | with_reducible refine Since.drewN ?_ _ | with_reducible refine Since.drew ?_ | with_reducible refine Since.set ?_ (by first | assumption | omega | (simp; done) | (simp; omega)) _)))).mono ?_); rintro e w8 ⟨rfl, hb8⟩; (first | (refine keepk (h7) hb8 (by first | assumption | (simp; omega) | (simp; done)) ?_; intro lk ck fk; refine keepk (w7.heap.size) hb8 (by first | assumption | (simp; omega) | (simp; done)) ?_; intro lk ck fk) | (refine keepk (h7) hb8 (by first | assumption | (simp; omega) | (simp; done)) ?_; intro lk ck fk))) | ((with_reducible refine (same_at 7 (by decide) _ (HE.out.later (by refine Since.out ?_; repeat (first | with_reducible assumption | with_reducible exact Since.refl _ | with_reducible refine Since.later ?_ (by with_reducible assumption) | with_reducible refine Since.only ?_ (by with_reducible assumption) (by first | assumption | omega | (simp; done) | (simp; omega)) | with_reducible refine Since.alloc ?_ _ | with_reducible refine Since.drewN ?_ _ | with_reducible refine Since.drew ?_ | with_reducible refine Since.set ?_ (by first | assumption | omega | (simp; done) | (simp; omega)) _)))).mono ?_); rintro e w9 ⟨rfl, hb9⟩; (first | (refine keepk (h7) hb9 (by first | assumption | (simp; omega) | (simp; done)) ?_; intro lk ck fk; refine keepk (w7.heap.size) hb9 (by first | assumption | (simp; omega) | (simp; done)) ?_; intro lk ck fk) | (refine keepk (h7) hb9 (by first | assumption | (simp; omega) | (simp; done)) ?_; intro lk ck fk))))) | fail) | go_values | go_skip | go_guarded | go_step | go_upon | go_back | go_simp)
  have hs9 : Since w w9 := (by refine Since.out ?_; repeat (first | with_reducible assumption | with_reducible exact Since.refl _ | with_reducible refine Since.later ?_ (by with_reducible assumption) | with_reducible refine Since.only ?_ (by with_reducible assumption) (by first | assumption | omega | (simp; done) | (simp; omega)) | with_reducible refine Since.alloc ?_ _ | with_reducible refine Since.drewN ?_ _ | with_reducible refine Since.drew ?_ | with_reducible refine Since.set ?_ (by first | assumption | omega | (simp; done) | (simp; omega)) _))
  (repeat clear ck); (repeat clear fk); (repeat clear lk)
  clear c70 l7 hb8 hb9 hs7
  obtain ⟨wq, rfl⟩ : ∃ wq : World, wq = w9 := ⟨_, rfl⟩
  by_cases hn : 1 ≤ n ∧ n ≤ 8
  case neg =>
    by_cases hlo : n < 1
    · go_wp2_with (go_at_call 32; refine (inew_no n hn _).mono ?_; rintro e w10 ⟨rfl, rfl⟩)
      go_ret
      exact ⟨rfl, (by refine Since.out ?_; repeat (first | with_reducible assumption | with_reducible exact Since.refl _ | with_reducible refine Since.later ?_ (by with_reducible assumption) | with_reducible refine Since.only ?_ (by with_reducible assumption) (by first | assumption | omega | (simp; done) | (simp; omega)) | with_reducible refine Since.alloc ?_ _ | with_reducible refine Since.drewN ?_ _ | with_reducible refine Since.drew ?_ | with_reducible refine Since.set ?_ (by first | assumption | omega | (simp; done) | (simp; omega)) _))⟩
    · have hhi : 8 < n := by omega
      go_wp2_with (go_at_call 32; refine (inew_no n hn _).mono ?_; rintro e w10 ⟨rfl, rfl⟩)
      go_ret
      exact ⟨rfl, (by refine Since.out ?_; repeat (first | with_reducible assumption | with_reducible exact Since.refl _ | with_reducible refine Since.later ?_ (by with_reducible assumption) | with_reducible refine Since.only ?_ (by with_reducible assumption) (by first | assumption | omega | (simp; done) | (simp; omega)) | with_reducible refine Since.alloc ?_ _ | with_reducible refine Since.drewN ?_ _ | with_reducible refine Since.drew ?_ | with_reducible refine Since.set ?_ (by first | assumption | omega | (simp; done) | (simp; omega)) _))⟩
  obtain ⟨n1, n8⟩ := hn
  have N1 := Lib.hid n1
  have N8 := Lib.hid n8
  go_wp2_with (go_at_call 32; refine (inew_yes n N1.out N8.out _).mono ?_; rintro e w10 ⟨rfl, hi10, hb10⟩)
  have hst : Loop w w10 (wq.heap.size + 1) wq.heap.size (.slice none 0 0) (.slice none 0 0) n [] [] 0 := ⟨hi10, Good.nil, Nat.le_refl _, Lst.nil _ _ _, New.first (w1 := w) hs9 rfl, by simp [Value.ownBlock], (by refine Since.out ?_; repeat (first | with_reducible assumption | with_reducible exact Since.refl _ | with_reducible refine Since.later ?_ (by with_reducible assumption) | with_reducible refine Since.only ?_ (by with_reducible assumption) (by first | assumption | omega | (simp; done) | (simp; omega)) | with_reducible refine Since.alloc ?_ _ | with_reducible refine Since.drewN ?_ _ | with_reducible refine Since.drew ?_ | with_reducible refine Since.set ?_ (by first | assumption | omega | (simp; done) | (simp; omega)) _))⟩
  have HST := Lib.hid hst
  clear hst hi10 hb10 hs9
  obtain ⟨G, hG⟩ : ∃ G, wq.heap.size + 1 = G := ⟨_, rfl⟩
  obtain ⟨Bm, hBm⟩ : ∃ Bm, wq.heap.size = Bm := ⟨_, rfl⟩
  rw [hG]
  have HST2 : Hid (Loop w w10 G Bm (.slice none 0 0) (.slice none 0 0) n [] [] 0) := Lib.hid (by rw [← hG, ← hBm]; exact HST.out)
  clear HST hG hBm
  go_loopw [18, 19] (fun s18 s19 wr => ∃ (k : Nat) (v : Value) (L : List One) (N : List Int), s19 = .int .i64 k ∧ k ≤ 60 ∧ Loop w wr G Bm v s18 n L N k) (fun _ i _ => 60 - (intOf i).toNat)
  case atStart => exact ⟨0, _, _, _, rfl, by omega, HST2.out⟩
  case round =>
    obtain ⟨k, v, L, N, rfl, hk, hT⟩ := hrel
    obtain ⟨va, rfl⟩ : ∃ va, va = u18 := ⟨_, rfl⟩
    have HT := Lib.hid hT
    have hs : Since w wr := hT.since
    clear hT HST2
    obtain ⟨wo, rfl⟩ : ∃ wo : World, wo = wr := ⟨_, rfl⟩
    by_cases hlen : k < Z.length
    case neg =>
      have hlen' : decide ((k : Int) < (Z.length : Int)) = false := by simp; omega
      go_wp2_with (go_at_call 35; refine (ilive _ _ _ _ _ _ _ HT.out.iz).mono ?_; rintro e w3 ⟨A3, cap3, rfl, hl3, hb3, hk3⟩)
      have hle := HT.out.iz.few
      go_ret
      exact ⟨by apply end_bool; simpa using hle, (by refine Since.out ?_; repeat (first | with_reducible assumption | with_reducible exact Since.refl _ | with_reducible refine Since.later ?_ (by with_reducible assumption) | with_reducible refine Since.only ?_ (by with_reducible assumption) (by first | assumption | omega | (simp; done) | (simp; omega)) | with_reducible refine Since.alloc ?_ _ | with_reducible refine Since.drewN ?_ _ | with_reducible refine Since.drew ?_ | with_reducible refine Since.set ?_ (by first | assumption | omega | (simp; done) | (simp; omega)) _))⟩
    by_cases h60 : k < 60
    case neg =>
      have hlen' : (k : Int) < (Z.length : Int) := by omega
      have h60' : decide ((k : Int) < 60) = false := by simp; omega
      go_wp2_with (go_at_call 35; refine (ilive _ _ _ _ _ _ _ HT.out.iz).mono ?_; rintro e w3 ⟨A3, cap3, rfl, hl3, hb3, hk3⟩)
      have hle := HT.out.iz.few
      go_ret
      exact ⟨by apply end_bool; simpa using hle, (by refine Since.out ?_; repeat (first | with_reducible assumption | with_reducible exact Since.refl _ | with_reducible refine Since.later ?_ (by with_reducible assumption) | with_reducible refine Since.only ?_ (by with_reducible assumption) (by first | assumption | omega | (simp; done) | (simp; omega)) | with_reducible refine Since.alloc ?_ _ | with_reducible refine Since.drewN ?_ _ | with_reducible refine Since.drew ?_ | with_reducible refine Since.set ?_ (by first | assumption | omega | (simp; done) | (simp; omega)) _))⟩
    have hlen' : (k : Int) < (Z.length : Int) := by omega
    have h60' : (k : Int) < 60 := by omega
    obtain ⟨b, off, rfl, hlt, hc⟩ := HC.out (by rintro rfl; simp at hlen)
    obtain ⟨x, hx, hI⟩ := hc k hlen
    clear hc
    generalize Z.getD k [] = r at *
    obtain ⟨bdr, A', cap', rfl, hle', hm', hcr⟩ := hI
    have cx : wo.cell? ⟨b, off + k, none⟩ = some (.slice A' r.length cap') := hs.cell hlt hx
    unfold maxLen at hm'
    by_cases hr : r.length = 2
    case neg =>
      have hr' : ((r.length : Int) != 2) = true := by simp; omega
      clear hr
      go_wp2_with fail
      go_roundw
      case rel => exact ⟨k + 1, v, L, N, by go_num, by omega, HT.out.later (by refine Since.out ?_; repeat (first | with_reducible assumption | with_reducible exact Since.refl _ | with_reducible refine Since.later ?_ (by with_reducible assumption) | with_reducible refine Since.only ?_ (by with_reducible assumption) (by first | assumption | omega | (simp; done) | (simp; omega)) | with_reducible refine Since.alloc ?_ _ | with_reducible refine Since.drewN ?_ _ | with_reducible refine Since.drew ?_ | with_reducible refine Since.set ?_ (by first | assumption | omega | (simp; done) | (simp; omega)) _)) (by omega)⟩
      case measure => simp [intOf]; omega
    match r, hr with
    | [p, u], _ =>
      obtain ⟨b2, off2, rfl, hlt2, hc2⟩ := hcr (by simp)
      have cp : wo.cell? ⟨b2, off2, none⟩ = some (.int .i64 p) := hs.cell hlt2 (hc2 0 (by simp))
      have cu0 : w.cell? ⟨b2, off2 + 1, none⟩ = some (.int .i64 u) := hc2 1 (by simp)
      have cu : wo.cell? ⟨b2, off2 + 1, none⟩ = some (.int .i64 u) := hs.cell hlt2 cu0
      have HX := Lib.hid hx
      have HU := Lib.hid cu0
      simp only [List.length_cons, List.length_nil, Nat.zero_add, Nat.reduceAdd] at cx HX
      have hcnt := HT.out.cnt
      clear hcr hc2 hx cu0 bdr hle' hm'
      by_cases hp : p = 0
      · have hp' : (p == 0) = true := by simpa using hp
        clear hp
        by_cases he : retE L u = 0
        case neg =>
          have HE2 := Lib.hid (errV_pos he)
          clear he
          go_wp2_with (go_at_call 36; refine (iretire _ _ _ _ _ _ u _ HT.out.iz).mono ?_; rintro e w2 ⟨rfl, v2, hi2, ho2, hk2⟩; rw [HE2.out])
          obtain ⟨g1, g2, g3, g4⟩ := HT.out.call hi2 ho2 hk2
          go_roundw
          case rel => exact ⟨k + 1, v2, _, N, by go_num, by omega, ⟨hi2, HT.out.good.sub (retL_sub L u), by omega, g1, g2, g3, g4⟩⟩
          case measure => simp [intOf]; omega
        have HE2 := Lib.hid he
        clear he
        go_wp2_with (go_at_call 36; refine (iretire _ _ _ _ _ _ u _ HT.out.iz).mono ?_; rintro e w2 ⟨rfl, v2, hi2, ho2, hk2⟩; rw [HE2.out, errV_zero])
        obtain ⟨g1, g2, g3, g4⟩ := HT.out.call hi2 ho2 hk2
        have hL2 : Loop w w2 G Bm v2 va n (retL L u) N (k + 1) := ⟨hi2, HT.out.good.sub (retL_sub L u), by omega, g1, g2, g3, g4⟩
        have HL2 := Lib.hid hL2
        obtain ⟨Av, capv, hva, hcv, _, hAv⟩ := g1.shape
        rw [List.length_map, issued_length] at hva hcv
        subst hva
        have HAV := Lib.hid hAv
        clear hi2 ho2 hk2 g1 g2 g3 g4 hL2 hAv cx cp cu hs
        go_loopw [20] (fun s20 wi => ∃ j : Nat, s20 = .int .i64 j ∧ j ≤ N.length ∧ Loop w wi G Bm v2 (.slice Av N.length capv) n (retL L u) N (k + 1)) (fun i _ => N.length - (intOf i).toNat)
        case atStart => exact ⟨0, rfl, Nat.zero_le _, HL2.out⟩
        case round =>
          obtain ⟨j, rfl, hj, hT3⟩ := hrel
          have HT3 := Lib.hid hT3
          have hs3 : Since w wr := hT3.since
          clear hT3
          by_cases hjl : j < N.length
          case neg =>
            have hjl' : decide ((j : Int) < (N.length : Int)) = false := by simp; omega
            go_wp2_with fail
            go_roundw
            case rel => exact ⟨k + 1, v2, _, N, by go_num, by omega, HT3.out⟩
            case measure => simp [intOf]; omega
          have hjl' : (j : Int) < (N.length : Int) := by omega
          rcases HAV.out with ⟨_, h0, _⟩ | ⟨qa, rfl⟩
          · have : issued N = [] := by simpa using h0
            have : (issued N).length = 0 := by rw [this]; rfl
            rw [issued_length] at this
            omega
          have hji : j < (issued N).length := by rw [issued_length]; exact hjl
          have q0 : wr.cell? ⟨qa, j * 2, none⟩ = some (.int .i64 (j : Int)) := by
            have := HT3.out.all.cell rfl (elem_of_row hji) (j := 0) rfl
            rw [issued_at hji] at this
            exact this
          have q1 : wr.cell? ⟨qa, j * 2 + 1, none⟩ = some (.int .i64 N[j]) := by
            have := HT3.out.all.cell rfl (elem_of_row hji) (j := 1) rfl
            rw [issued_at hji] at this
            exact this
          have cx3 : wr.cell? ⟨b, off + k, none⟩ = some (.slice (some ⟨b2, off2, none⟩) 2 cap') := hs3.cell hlt HX.out
          have cu3 : wr.cell? ⟨b2, off2 + 1, none⟩ = some (.int .i64 u) := hs3.cell hlt2 HU.out
          clear hji
          by_cases hju : (j : Int) = u
          · have hju' : ((j : Int) == u) = true := by simpa using hju
            have HF := Lib.hid (find_gone HT.out.good HE2.out hjl hju)
            obtain ⟨nj, hnj⟩ : ∃ x, N[j] = x := ⟨_, rfl⟩
            rw [hnj] at q1
            have HF2 : Hid (findE (retL L u) nj = 5) := Lib.hid (by rw [← hnj]; exact HF.out)
            clear hju hnj HF
            have lqa := World.block_lt_of_cell? _ _ q0
            go_wp2_with fail
            go_quiet (fail)
            go_wp2_with (first | (go_at_call 34; refine (ifind G Bm v2 n (retL L u) N nj _ (iz_drewN HT3.out.iz _)).mono ?_; rintro e w4 ⟨rfl, hb4⟩; rw [HF2.out, errV_5]) | (go_at_call 13; refine (same_at 5 (by decide) _ (HE.out.later (by refine Since.out ?_; repeat (first | with_reducible assumption | with_reducible exact Since.refl _ | with_reducible refine Since.later ?_ (by with_reducible assumption) | with_reducible refine Since.only ?_ (by with_reducible assumption) (by first | assumption | omega | (simp; done) | (simp; omega)) | with_reducible refine Since.alloc ?_ _ | with_reducible refine Since.drewN ?_ _ | with_reducible refine Since.drew ?_ | with_reducible refine Since.set ?_ (by first | assumption | omega | (simp; done) | (simp; omega)) _)))).mono ?_; rintro e w5 ⟨rfl, hb5⟩))
            go_roundw
            case rel => exact ⟨j + 1, by go_num, by omega, HT3.out.later (by refine Since.out ?_; repeat (first | with_reducible assumption | with_reducible exact Since.refl _ | with_reducible refine Since.later ?_ (by with_reducible assumption) | with_reducible refine Since.only ?_ (by with_reducible assumption) (by first | assumption | omega | (simp; done) | (simp; omega)) | with_reducible refine Since.alloc ?_ _ | with_reducible refine Since.drewN ?_ _ | with_reducible refine Since.drew ?_ | with_reducible refine Since.set ?_ (by first | assumption | omega | (simp; done) | (simp; omega)) _)) (Nat.le_refl _)⟩
            case measure => simp [intOf]; omega
          · have hju' : ((j : Int) == u) = false := by simpa using hju
            clear hju
            go_wp2_with fail
            go_quiet (fail)
            go_wp2_with fail
            go_roundw
            case rel => exact ⟨j + 1, by go_num, by omega, HT3.out.later (by refine Since.out ?_; repeat (first | with_reducible assumption | with_reducible exact Since.refl _ | with_reducible refine Since.later ?_ (by with_reducible assumption) | with_reducible refine Since.only ?_ (by with_reducible assumption) (by first | assumption | omega | (simp; done) | (simp; omega)) | with_reducible refine Since.alloc ?_ _ | with_reducible refine Since.drewN ?_ _ | with_reducible refine Since.drew ?_ | with_reducible refine Since.set ?_ (by first | assumption | omega | (simp; done) | (simp; omega)) _)) (Nat.le_refl _)⟩
            case measure => simp [intOf]; omega
      · have hp' : (p == 0) = false := by simpa using hp
        clear hp
        by_cases he : issE n L N u = 0
        case neg =>
          have HE2 := Lib.hid (errV_pos he)
          have HB := Lib.hid (iss_bad he)
          clear he
          go_wp2_with (go_at_call 33; refine (iissue _ _ _ _ _ _ u _ HT.out.iz).mono ?_; rintro e w2 ⟨rfl, v2, hi2, ho2, hk2⟩; rw [HE2.out])
          rw [HB.out.1, HB.out.2.1] at hi2
          obtain ⟨g1, g2, g3, g4⟩ := HT.out.call hi2 ho2 hk2
          go_roundw
          case rel => exact ⟨k + 1, v2, _, N, by go_num, by omega, Loop.later ⟨hi2, HT.out.good, hcnt, g1, g2, g3, g4⟩ (by refine Since.out ?_; repeat (first | with_reducible assumption | with_reducible exact Since.refl _ | with_reducible refine Since.later ?_ (by with_reducible assumption) | with_reducible refine Since.only ?_ (by with_reducible assumption) (by first | assumption | omega | (simp; done) | (simp; omega)) | with_reducible refine Since.alloc ?_ _ | with_reducible refine Since.drewN ?_ _ | with_reducible refine Since.drew ?_ | with_reducible refine Since.set ?_ (by first | assumption | omega | (simp; done) | (simp; omega)) _)) (by omega)⟩
          case measure => simp [intOf]; omega
        have HE2 := Lib.hid he
        have HB := Lib.hid (iss_ok he)
        obtain ⟨hgood, hnew⟩ := HT.out.good.issue he
        have HG := Lib.hid hgood
        have HNW := Lib.hid hnew
        have HFN := Lib.hid (find_new HT.out.good hnew)
        clear he hgood hnew
        repeat ((fail_if_success (with_reducible refine stop_at 31 ?_)); first | (go_at_call 33; refine (iissue _ _ _ _ _ _ u _ HT.out.iz).mono ?_; rintro e w2 ⟨rfl, v2, hi2, ho2, hk2⟩; rw [HE2.out, HB.out.2.2, errV_zero]) | go_values | go_skip | go_guarded | go_step | go_upon | go_back | go_simp)
        rw [HB.out.1, HB.out.2.1] at hi2
        obtain ⟨g1, g2, g3, g4⟩ := HT.out.call hi2 ho2 hk2
        obtain ⟨Av, capv, hva, hcv, _, hAv⟩ := g1.shape
        rw [List.length_map, issued_length] at hva hcv
        subst hva
        have hd : BlockIs (w2.alloc (.cells #[.int .i64 N.length, .int .i64 u] 67)) w2.heap.size 67 #[.int .i64 N.length, .int .i64 u] := BlockIs.fresh _ _ _
        have hP : Pend w (w2.alloc (.cells #[.int .i64 N.length, .int .i64 u] 67)) G Bm v2 (.slice Av N.length capv) n L N u w2.heap.size := ⟨hi2.later (by refine Since.out ?_; repeat (first | with_reducible assumption | with_reducible exact Since.refl _ | with_reducible refine Since.later ?_ (by with_reducible assumption) | with_reducible refine Since.only ?_ (by with_reducible assumption) (by first | assumption | omega | (simp; done) | (simp; omega)) | with_reducible refine Since.alloc ?_ _ | with_reducible refine Since.drewN ?_ _ | with_reducible refine Since.drew ?_ | with_reducible refine Since.set ?_ (by first | assumption | omega | (simp; done) | (simp; omega)) _)), g1.alloc _, hd, (by refine Since.out ?_; repeat (first | with_reducible assumption | with_reducible exact Since.refl _ | with_reducible refine Since.later ?_ (by with_reducible assumption) | with_reducible refine Since.only ?_ (by with_reducible assumption) (by first | assumption | omega | (simp; done) | (simp; omega)) | with_reducible refine Since.alloc ?_ _ | with_reducible refine Since.drewN ?_ _ | with_reducible refine Since.drew ?_ | with_reducible refine Since.set ?_ (by first | assumption | omega | (simp; done) | (simp; omega)) _))⟩
        have hdv : w2.heap.size ∉ blocks (.slice Av N.length capv) := fun hm => by have := g1.lt _ hm; omega
        have HP := Lib.hid hP
        have HAV := Lib.hid hAv
        have HNE := Lib.hid g2
        have HFAR := Lib.hid g3
        have HDV := Lib.hid hdv
        clear hi2 ho2 hk2 g1 g2 g3 g4 hAv cx cp cu hs hd hP hdv
        generalize w2.alloc (.cells #[.int .i64 N.length, .int .i64 u] 67) = w3 at *
        generalize w2.heap.size = dd at *
        go_wp2_with fail
        go_loopw [26] (fun s26 wi => ∃ j : Nat, s26 = .int .i64 j ∧ j ≤ N.length ∧ Pend w wi G Bm v2 (.slice Av N.length capv) n L N u dd) (fun i _ => N.length - (intOf i).toNat)
        case atStart => exact ⟨0, rfl, Nat.zero_le _, HP.out⟩
        case round =>
          obtain ⟨j, rfl, hj, hT3⟩ := hrel
          have HT3 := Lib.hid hT3
          have hs3 : Since w wr := hT3.since
          have d0 : wr.cell? ⟨dd, 0, none⟩ = some (.int .i64 N.length) := hT3.d.cell 0
          have d1 : wr.cell? ⟨dd, 1, none⟩ = some (.int .i64 u) := hT3.d.cell 1
          have ldd := hT3.d.lt
          clear hT3
          by_cases hjl : j < N.length
          case neg =>
            have hjl' : decide ((j : Int) < (N.length : Int)) = false := by simp; omega
            have hml : ((issued N).map idRow).length = N.length := by rw [List.length_map, issued_length]
            have HML := Lib.hid hml
            clear hml
            repeat ((fail_if_success (with_reducible refine stop_at 37 ?_)); first | (at_builtin; refine wpList_push rfl _ _ 70 rfl 67 2 16 Tryd.elID (.slice Av N.length capv) ((issued N).map idRow) rfl (HT3.out.all.alloc _) wr.heap.size 1 [.int .i64 N.length, .int .i64 u] rfl rfl (idRow_one ⟨N.length, u⟩).2 (BlockIs.fresh _ _ _) (by rw [HML.out]; omega) ?_; intro qn capn w5 hl5 ho5 hq5 hlt5) | go_values | go_skip | go_guarded | go_step | go_upon | go_back | go_simp)
            rw [HML.out] at hl5
            have hiz5 : Iz w5 G Bm v2 n (L ++ [⟨(N.length : Int), u⟩]) (N ++ [u]) := (HT3.out.iz.later (w1 := wr.alloc _) (by refine Since.out ?_; repeat (first | with_reducible assumption | with_reducible exact Since.refl _ | with_reducible refine Since.later ?_ (by with_reducible assumption) | with_reducible refine Since.only ?_ (by with_reducible assumption) (by first | assumption | omega | (simp; done) | (simp; omega)) | with_reducible refine Since.alloc ?_ _ | with_reducible refine Since.drewN ?_ _ | with_reducible refine Since.drew ?_ | with_reducible refine Since.set ?_ (by first | assumption | omega | (simp; done) | (simp; omega)) _))).kept ho5 (fun x hx hm => (HFAR.out x hm).2 hx)
            have hd5 := ho5.block' (HT3.out.d.alloc _) HDV.out
            have e50 : w5.cell? ⟨dd, 0, none⟩ = some (.int .i64 N.length) := hd5.cell 0
            have e51 : w5.cell? ⟨dd, 1, none⟩ = some (.int .i64 u) := hd5.cell 1
            have ld5 := hd5.lt
            have hs5 : Since w w5 := (hs3.alloc _).out' ho5 (fun x hx => (HFAR.out x hx).1)
            have hl5' : Lst w5 67 2 (.slice (some ⟨qn, 0, none⟩) (N.length + 1) capn) ((issued (N ++ [u])).map idRow) := by
              rw [issued_snoc, List.map_append]
              exact hl5
            have hqf : ∀ x, x ∈ blocks (.slice (some ⟨qn, 0, none⟩) (N.length + 1) capn) → w.heap.size ≤ x ∧ x ∉ G :: Bm :: blocks v2 := by
              intro x hx
              have hxq : qn = x := by simpa [Value.ownBlock] using hx
              rw [← hxq]
              rcases hq5 with h1 | h1
              · exact HFAR.out _ h1
              · refine ⟨by have := hs3.le; simp at h1; omega, fun hm => ?_⟩
                simp at h1
                simp only [List.mem_cons] at hm
                rcases hm with h2 | h2 | h2
                · have := HT3.out.iz.bl.lt; omega
                · have := HT3.out.iz.mp.lt; omega
                · have := HT3.out.iz.ls.lt _ h2; omega
            have HIZ5 := Lib.hid hiz5
            have HL5 := Lib.hid hl5'
            have HQF := Lib.hid hqf
            clear hl5 ho5 hq5 hiz5 hl5' hqf d0 d1
            go_wp2_with (go_at_call 34; refine (ifind _ _ _ _ _ _ u _ HIZ5.out).mono ?_; rintro e w6 ⟨rfl, hb6⟩; rw [HFN.out.1, HFN.out.2, errV_zero]; (first | (refine keepk (dd) hb6 (by first | assumption | (simp; omega) | (simp; done)) ?_; intro lk ck fk)))
            go_roundw
            case rel => exact ⟨k + 1, v2, _, _, by go_num, by omega, Loop.later ⟨HIZ5.out, HG.out, by rw [List.length_append]; simp; omega, HL5.out.as (by rw [issued_length]) rfl, HNE.out, HQF.out, hs5⟩ (by refine Since.out ?_; repeat (first | with_reducible assumption | with_reducible exact Since.refl _ | with_reducible refine Since.later ?_ (by with_reducible assumption) | with_reducible refine Since.only ?_ (by with_reducible assumption) (by first | assumption | omega | (simp; done) | (simp; omega)) | with_reducible refine Since.alloc ?_ _ | with_reducible refine Since.drewN ?_ _ | with_reducible refine Since.drew ?_ | with_reducible refine Since.set ?_ (by first | assumption | omega | (simp; done) | (simp; omega)) _)) (Nat.le_refl _)⟩
            case measure => simp [intOf]; omega
          have hjl' : (j : Int) < (N.length : Int) := by omega
          rcases HAV.out with ⟨_, h0, _⟩ | ⟨qa, rfl⟩
          · have : issued N = [] := by simpa using h0
            have : (issued N).length = 0 := by rw [this]; rfl
            rw [issued_length] at this
            omega
          have hji : j < (issued N).length := by rw [issued_length]; exact hjl
          have q0 : wr.cell? ⟨qa, j * 2, none⟩ = some (.int .i64 (j : Int)) := by
            have := HT3.out.all.cell rfl (elem_of_row hji) (j := 0) rfl
            rw [issued_at hji] at this
            exact this
          have q1 : wr.cell? ⟨qa, j * 2 + 1, none⟩ = some (.int .i64 N[j]) := by
            have := HT3.out.all.cell rfl (elem_of_row hji) (j := 1) rfl
            rw [issued_at hji] at this
            exact this
          have hnu : (N[j] == u) = false := by
            have : N[j] ∈ N := List.getElem_mem hjl
            simp only [beq_eq_false_iff_ne, ne_eq]
            rintro rfl
            exact HNW.out this
          have hjn : decide ((N.length : Int) ≤ (j : Int)) = false := by simp; omega
          generalize N[j] = nj at *
          clear hji
          go_wp2_with fail
          go_quiet (fail)
          go_wp2_with fail
          go_roundw
          case rel => exact ⟨j + 1, by go_num, by omega, HT3.out.later (by refine Since.out ?_; repeat (first | with_reducible assumption | with_reducible exact Since.refl _ | with_reducible refine Since.later ?_ (by with_reducible assumption) | with_reducible refine Since.only ?_ (by with_reducible assumption) (by first | assumption | omega | (simp; done) | (simp; omega)) | with_reducible refine Since.alloc ?_ _ | with_reducible refine Since.drewN ?_ _ | with_reducible refine Since.drew ?_ | with_reducible refine Since.set ?_ (by first | assumption | omega | (simp; done) | (simp; omega)) _))⟩
          case measure => simp [intOf]; omega

/-! the row -/
theorem own : ownKnob Tryd.prog.godebug = none := by kernel_rfl
theorem laidOut : laidOutB Tryd.prog = true := by kernel_rfl
set_option maxRecDepth 100000 in
theorem contract (H : Type) (enc : TypeId × Value → H) (W : World) (base : Nat) (args : Array Value) (ds gs : List (DataW H)) (before : List MemPlace)
    (hval : ∀ (j : Nat) t v, Tryd.f10.params[j]? = some t → args[j]? = some v → Value.okWide Tryd.prog W .any base t v)
    (hW : DataW.Whole enc Tryd.prog Tryd.f10.params.toList Rows.iDsOnceSpec.vars false W args.toList ds gs before) (hL : laidMetH Tryd.prog Rows.iDsOnceRow.laid W) :
    Calls Tryd.prog 10 args W fun e W' => ∃ v, e = .returned v ∧ Rows.iDsOnceSpec.post enc Tryd.prog Tryd.f10 false true false false W args v W' := by
  have hW' := hW
  obtain ⟨p, q, hA0, hV, rfl, hfz, hnd⟩ := hW
  have hA : DataW.TrodAll enc Tryd.prog W 0 (fun _ => true) true Tryd.f10.params.toList args.toList ds p := hA0
  rw [Tryd.params10] at hA hval
  obtain ⟨v0, vs0, d0, ds0, p0, q0, hargs, rfl, rfl, h0, r0⟩ := trodAll_cons hA
  obtain ⟨v1, vs1, d1, ds1, p1, q1, rfl, rfl, rfl, h1, r1⟩ := trodAll_cons r0
  obtain ⟨rfl, rfl, rfl⟩ := trodAll_nil r1
  obtain rfl : args = #[v0, v1] := by cases args; simp_all
  obtain ⟨rfl, rfl⟩ := trodVars_none hV
  obtain ⟨a0, rfl, rfl, rfl, w0⟩ := open_int Tryd.underlying3 (hval 0 3 v0 rfl rfl) h0
  obtain ⟨a1, len1, cap1, rfl⟩ := okWide_slice Tryd.underlying22 (hval 1 22 v1 rfl rfl)
  have k1 := h1
  have lt1 : ∀ x ∈ p1, x.block < W.heap.size := by obtain ⟨m, hm⟩ := k1; exact DataW.trod_lt m _ _ _ hm
  obtain ⟨z1, w1⟩ : ∃ zs, IntRowsIn W (.slice a1 len1 cap1) zs := by
    obtain ⟨fuel, hf⟩ := h1
    exact intRowsIn_open Tryd.underlying22 Tryd.underlying33 Tryd.underlying3 (by kernel_rfl) (by kernel_rfl) hf lt1
  have lw := laidWalk hL
  refine (walk a0 (.slice a1 len1 cap1) z1 W w0 w1 lw).mono fun e W' ⟨he, bel⟩ => ?_
  subst he
  exact ⟨_, rfl, _, _, _, [], _, [], hW', trodAll_mk1 (shut_bool Tryd.underlying4 _), (trodAll_cons_mk (shut_int Tryd.underlying3 w0) (trodAll_cons_mk (Below.trod laidOut (by kernel_rfl) (of_decide_eq_true (by kernel_rfl)) k1 bel lt1) trodAll_mk0)), rfl, bel.frame _, fun h => by cases h⟩

theorem reads (os : Os) {H : Type} (enc : TypeId × Value → H) : ∃ places, DataW.whole enc Tryd.prog ((laidWorld os).forCall (fun _ _ => 0) ⟨#[], #[.int .i64 0, .slice none 0 0], []⟩).memory Tryd.f10.params.toList Rows.iDsOnceSpec.vars false (#[.int .i64 0, .slice none 0 0] : Array Value).toList 8 = some ([.lit (.int .i64 0), .nil], [], places) :=
  ⟨[], by kernel_rfl⟩
theorem laid_met (os : Os) : laidMetH Tryd.prog Rows.iDsOnceRow.laid ((laidWorld os).forCall (fun _ _ => 0) ⟨#[], #[.int .i64 0, .slice none 0 0], []⟩).memory := laidMetW os _

set_option maxRecDepth 100000 in
theorem lifted (os : Os) (started : os.Started) (H : Type) (enc : TypeId × Value → H) (F : Stop.Interp) :
    ReturnsInHanded {} Tryd.checked os 10 .any ((OpenSpec.ofChange Rows.iDsOnceSpec).preRow enc Tryd.prog Tryd.f10 Rows.iDsOnceRow.domain false Rows.iDsOnceRow.laid) (((OpenSpec.ofChange Rows.iDsOnceSpec).at F).post enc Tryd.prog Tryd.f10 false true false false) := by
  obtain ⟨places, hx⟩ := reads os enc
  refine returnsInHanded_of_row (C := Tryd.checked) (s := OpenSpec.ofChange Rows.iDsOnceSpec) own started (by kernel_rfl) Tryd.func10
    (witness_row_at (enc := enc) (C := Tryd.checked) false (laidWorld os) #[.int .i64 0, .slice none 0 0] rfl (by kernel_rfl) (by kernel_rfl) (by kernel_rfl)
      (OpenSpec.preRow_of_cond 8 hx (by kernel_rfl) (fun k hk => by cases hk) (by kernel_rfl) (laid_met os))) ?_
  intro W base args ds gs before hval hW _ _ _ hL _ _
  exact contract H enc W base args ds gs before hval hW hL

theorem said : Rows.IDsOnceSaid :=
  OpenClaim.holds_of_cond 10 Tryd.f10 rfl rfl rfl rfl rfl rfl rfl ⟨rfl, rfl, rfl, rfl, rfl⟩ rfl rfl rfl rfl rfl (by kernel_rfl) Tryd.func10 (by kernel_rfl)
    (of_decide_eq_true (by kernel_rfl)) (by unfold Func.isWrapper; first | (rw [if_pos (by decide +kernel)]; kernel_rfl) | (rw [if_neg (by decide +kernel)]; exact ⟨rfl, rfl⟩))
    (fun os started H enc _ F => by rw [OpenClaim.pre_eq_preRow]; exact lifted os started H enc F)

theorem plain (f : FuncId) (fn : Func) (hf : Tryd.pinned.checked.prog.funcNamed "wanderwire/wirelaw1.IDsOnce" = some f) (hfn : Tryd.pinned.checked.prog.funcs[f]? = some fn) :
    true = Tryd.pinned.checked.prog.looks [] ∧ ∀ (j : Nat) t, fn.params[j]? = some t → Tryd.pinned.checked.prog.wantsStandIn t = false := by
  obtain rfl : f = 10 := Option.some.inj ((show Tryd.prog.funcNamed "wanderwire/wirelaw1.IDsOnce" = some 10 by kernel_rfl).symm.trans hf) |>.symm
  obtain rfl : fn = Tryd.f10 := (Option.some.inj (Tryd.func10.symm.trans hfn)).symm
  refine ⟨by kernel_rfl, fun j t ht => ?_⟩
  rw [Tryd.params10] at ht
  have ht' := Array.mem_of_getElem? ht
  have hall : (([3, 22] : List Nat).all fun t => !Tryd.prog.wantsStandIn t) = true := by kernel_rfl
  have hq := List.all_eq_true.1 hall t (by simpa using ht')
  have hq2 : Tryd.prog.wantsStandIn t = false := by simpa using hq
  exact hq2

theorem card : Rows.IDsOnceCardSaid :=
  Claim7.holds_tied_plain_at .later [] _ _ _ _ said (fun _ h => by cases h) (by kernel_rfl) (fun _ h => by cases h) iDsOnce_row_tie rfl ⟨rfl, rfl⟩ (by kernel_rfl) rfl plain (by kernel_rfl)
#print axioms card
end Go.Proofs.YtaiojfoicfhbnaaDoor.iDsOnce
