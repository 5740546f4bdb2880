/- Contracts of package proof: what each answers, and what becomes of the proofs' blocks. Condition: the blocks hold proofs as New and the calls leave them. -/
import Derived.Test.YthnolkbolmbkdaaAsk
import Derived.Test.YthnolkbolmbkdaaTold
import Derived.Deep.QuietTactic
import Derived.BigQuiet
namespace Go.Proofs.Ythnolkbolmbkdaa
open Go.ChangeShapes Go.WideShapes Go.ChangeAt Go.RowKit
set_option linter.unusedVariables false

theorem path_any (p : Int) (w : World) : Calls Try.prog 19 #[.int .i64 p] w fun e w' => e = .returned (.bool (pathB p)) ∧ w = w' := by
  by_cases h : 0 ≤ p ∧ p < 4
  · obtain ⟨a, b⟩ := h
    rw [pathB_iff.2 ⟨a, b⟩]
    go_enter Try.func19, Try.ntmps19
    go_wp2
    go_ret
    exact ⟨rfl, rfl⟩
  · rw [pathB_no h]
    by_cases a : 0 ≤ p
    · have b : decide (p < 4) = false := by simp; omega
      clear h
      go_enter Try.func19, Try.ntmps19
      go_wp2
      go_ret
      exact ⟨rfl, rfl⟩
    · clear h
      go_enter Try.func19, Try.ntmps19
      go_wp2
      go_ret
      exact ⟨rfl, rfl⟩
theorem time_any (p : Int) (w : World) : Calls Try.prog 32 #[.int .i64 p] w fun e w' => e = .returned (.bool (timeB p)) ∧ w = w' := by
  by_cases h : 0 ≤ p ∧ p ≤ 100000
  · obtain ⟨a, b⟩ := h
    rw [timeB_iff.2 ⟨a, b⟩]
    go_enter Try.func32, Try.ntmps32
    go_wp2
    go_ret
    exact ⟨rfl, rfl⟩
  · rw [timeB_no h]
    by_cases a : 0 ≤ p
    · have b : decide (p ≤ 100000) = false := by simp; omega
      clear h
      go_enter Try.func32, Try.ntmps32
      go_wp2
      go_ret
      exact ⟨rfl, rfl⟩
    · clear h
      go_enter Try.func32, Try.ntmps32
      go_wp2
      go_ret
      exact ⟨rfl, rfl⟩

/-- what lies in the map at a number -/
def askV (a : Asked) : Value := .agg #[.int .i64 a.p, .int .i64 a.t]
def askF (L : List Asked) (k : Int) : Option Value := (fnd L k).map askV
/-- proofs at g, their map at b: these are open -/
structure Pr (w : World) (g b : Nat) (L : List Asked) : Prop where
  bl : BlockIs w g 70 #[.map (some b)]
  mp : MapI w Try.prog 3 b (askF L) L.length
  inv : AInv L
  ne : g ≠ b
theorem Pr.later {w w1 : World} {g b : Nat} {L : List Asked} (h : Pr w g b L) (hb : Below w.heap.size w w1) : Pr w1 g b L := ⟨h.bl.later hb, h.mp.later hb, h.inv, h.ne⟩
theorem Pr.drew {w : World} {g b : Nat} {L : List Asked} (h : Pr w g b L) : Pr w.drew g b L := ⟨h.bl, h.mp, h.inv, h.ne⟩
theorem Pr.drewN {w : World} {g b : Nat} {L : List Asked} (h : Pr w g b L) (n : Nat) : Pr (w.drewN n) g b L := ⟨h.bl, h.mp, h.inv, h.ne⟩
theorem Pr.kept {w w1 : World} {g b : Nat} {L : List Asked} {S : List Nat} (h : Pr w g b L) (hg : Out w w1 S) (h1 : g ∉ S) (h2 : b ∉ S) : Pr w1 g b L := by
  refine ⟨hg.block' h.bl h1, ?_, h.inv, h.ne⟩
  obtain ⟨D, ⟨es, clock, hb, F, hs, hD⟩, r⟩ := h.mp
  exact ⟨D, ⟨es, clock, (hg.block b h.mp.lt h2).trans hb, F, hs, hD⟩, r⟩
theorem Try.askMap : Try.prog.underlying 68 = some (.map 3 73) := by kernel_rfl
theorem Try.askZero (w : World) : (zeroValue 73).run Try.prog w = .ok (.agg #[.int .i64 0, .int .i64 0]) w := by kernel_rfl

theorem pnew (w : World) : Calls Try.prog 14 #[] w fun e w' => e = .returned (.pointer (some ⟨w.heap.size + 1, 0, none⟩)) ∧ Pr w' (w.heap.size + 1) w.heap.size [] ∧ Below w.heap.size w w' := by
  have hmm := @run_makeMap Try.prog
  go_enter Try.func14, Try.ntmps14
  go_wp2
  go_ret
  refine ⟨rfl, ⟨?_, ?_, AInv.nil, by omega⟩, ((Below.refl _ _).alloc (Nat.le_refl _) _).alloc (by simp) _⟩
  · exact BlockIs.fresh_at (by simp)
  · exact (MapI.made w Try.prog 3).alloc _

theorem askF_put {L : List Asked} {p k t : Int} (h : fnd L k = none) : putI (askF L) k (.agg #[.int .i64 p, .int .i64 t]) = askF (L ++ [⟨p, k, t⟩]) := by
  funext j
  unfold putI askF
  rw [fnd_append (a := ⟨p, k, t⟩) h]
  split
  · rfl
  · rfl
theorem askF_del (L : List Asked) (k : Int) : delI (askF L) k = askF (cut L k) := by
  funext j
  unfold delI askF
  rw [fnd_cut]
  split <;> rfl

set_option maxHeartbeats 1600000 in
theorem pask_any (g b : Nat) (L : List Asked) (p k t : Int) (w : World) (h : Pr w g b L) :
    Calls Try.prog 20 #[.pointer (some ⟨g, 0, none⟩), .int .i64 p, .int .i64 k, .int .i64 t] w fun e w' => e = .returned (errV (askE L p k t)) ∧ Pr w' g b (askL L p k t) ∧ Out w w' [b] := by
  have c0 : w.cell? ⟨g, 0, none⟩ = some (.map (some b)) := h.bl.cell 0
  have lg := h.bl.lt
  by_cases hok : AskOk p k t
  case neg =>
    have E : Hid (askE L p k t = 1) := Lib.hid (by unfold askE; rw [if_neg hok])
    have EL : Hid (askL L p k t = L) := Lib.hid (by unfold askL; rw [E.out, if_neg (by decide)])
    have H := Lib.hid h
    clear h
    by_cases a : pathB p = true
    case neg =>
      have a' : pathB p = false := by simpa using a
      clear a hok
      go_enter Try.func20, Try.ntmps20
      go_wp2_with (go_at_call 19; refine (path_any p _).mono ?_; rintro e w' ⟨rfl, rfl⟩)
      go_ret
      exact ⟨by rw [E.out]; rfl, by rw [EL.out]; exact H.out, Out.refl _ _⟩
    by_cases c : mayB k = true
    case neg =>
      have c' : mayB k = false := by simpa using c
      clear c hok
      go_enter Try.func20, Try.ntmps20
      go_wp2_with (first | (go_at_call 19; refine (path_any p _).mono ?_; rintro e w' ⟨rfl, rfl⟩) | (go_at_call 29; refine (may_any k _).mono ?_; rintro e w' ⟨rfl, rfl⟩))
      go_ret
      exact ⟨by rw [E.out]; rfl, by rw [EL.out]; exact H.out, Out.refl _ _⟩
    have d : timeB t = false := timeB_no (fun q => hok ⟨pathB_iff.1 a, mayB_iff.1 c, q⟩)
    clear hok
    go_enter Try.func20, Try.ntmps20
    go_wp2_with (first | (go_at_call 19; refine (path_any p _).mono ?_; rintro e w' ⟨rfl, rfl⟩) | (go_at_call 29; refine (may_any k _).mono ?_; rintro e w' ⟨rfl, rfl⟩) | (go_at_call 32; refine (time_any t _).mono ?_; rintro e w' ⟨rfl, rfl⟩))
    go_ret
    exact ⟨by rw [E.out]; rfl, by rw [EL.out]; exact H.out, Out.refl _ _⟩
  have a : pathB p = true := pathB_iff.2 hok.1
  have c : mayB k = true := mayB_iff.2 hok.2.1
  have d : timeB t = true := timeB_iff.2 hok.2.2
  have hwf : (Lit.int .i64 k).wf = true := WalkArith.wf_i64 (by have := hok.2.1; unfold MayBe at this; omega)
  have HW := Lib.hid hwf
  clear hwf
  cases hf : fnd L k with
  | some x =>
    have E : Hid (askE L p k t = 7) := Lib.hid (by unfold askE; rw [if_pos hok, hf]; rfl)
    have EL : Hid (askL L p k t = L) := Lib.hid (by unfold askL; rw [E.out, if_neg (by decide)])
    have hlook := h.mp.look Try.underlying3 Try.askMap (Try.askZero w) HW.out (r := some (askV x)) (by unfold askF; rw [hf]; rfl)
    simp only [askV, Option.getD_some, Option.isSome_some] at hlook
    have H := Lib.hid h
    clear h hok hf
    go_enter Try.func20, Try.ntmps20
    go_wp2_with (first | (go_at_call 19; refine (path_any p _).mono ?_; rintro e w' ⟨rfl, rfl⟩) | (go_at_call 29; refine (may_any k _).mono ?_; rintro e w' ⟨rfl, rfl⟩) | (go_at_call 32; refine (time_any t _).mono ?_; rintro e w' ⟨rfl, rfl⟩))
    go_ret
    exact ⟨by rw [E.out]; rfl, by rw [EL.out]; exact H.out.later (by refine Since.out ?_; repeat (first | with_reducible assumption | with_reducible exact Since.refl _ | with_reducible refine Since.later ?_ (by with_reducible assumption) | with_reducible refine Since.only ?_ (by with_reducible assumption) (by first | assumption | omega | (simp; done) | (simp; omega)) | with_reducible refine Since.alloc ?_ _ | with_reducible refine Since.drewN ?_ _ | with_reducible refine Since.drew ?_ | with_reducible refine Since.set ?_ (by first | assumption | omega | (simp; done) | (simp; omega)) _)), (Out.refl _ _).later (by refine Since.out ?_; repeat (first | with_reducible assumption | with_reducible exact Since.refl _ | with_reducible refine Since.later ?_ (by with_reducible assumption) | with_reducible refine Since.only ?_ (by with_reducible assumption) (by first | assumption | omega | (simp; done) | (simp; omega)) | with_reducible refine Since.alloc ?_ _ | with_reducible refine Since.drewN ?_ _ | with_reducible refine Since.drew ?_ | with_reducible refine Since.set ?_ (by first | assumption | omega | (simp; done) | (simp; omega)) _))⟩
  | none =>
    have hlook := h.mp.look Try.underlying3 Try.askMap (Try.askZero w) HW.out (r := none) (by unfold askF; rw [hf]; rfl)
    simp only [Option.getD_none, Option.isSome_none] at hlook
    have hlen : ∀ o ty, (Builtin.len_ #[68] ty #[.map (some b)]).run Try.prog (w.alloc o) = .ok (.int .i64 L.length) (w.alloc o) := fun o ty => (h.mp.alloc o).len Try.askMap ty
    by_cases h8 : L.length = 8
    · have E : Hid (askE L p k t = 4) := Lib.hid (by unfold askE; rw [if_pos hok, hf, if_neg (by simp), if_pos h8])
      have EL : Hid (askL L p k t = L) := Lib.hid (by unfold askL; rw [E.out, if_neg (by decide)])
      have H := Lib.hid h
      have h8' : ((L.length : Int) == 8) = true := by simp; omega
      clear h hok hf h8
      go_enter Try.func20, Try.ntmps20
      go_wp2_with (first | (go_at_call 19; refine (path_any p _).mono ?_; rintro e w' ⟨rfl, rfl⟩) | (go_at_call 29; refine (may_any k _).mono ?_; rintro e w' ⟨rfl, rfl⟩) | (go_at_call 32; refine (time_any t _).mono ?_; rintro e w' ⟨rfl, rfl⟩))
      go_ret
      exact ⟨by rw [E.out]; rfl, by rw [EL.out]; exact H.out.later (by refine Since.out ?_; repeat (first | with_reducible assumption | with_reducible exact Since.refl _ | with_reducible refine Since.later ?_ (by with_reducible assumption) | with_reducible refine Since.only ?_ (by with_reducible assumption) (by first | assumption | omega | (simp; done) | (simp; omega)) | with_reducible refine Since.alloc ?_ _ | with_reducible refine Since.drewN ?_ _ | with_reducible refine Since.drew ?_ | with_reducible refine Since.set ?_ (by first | assumption | omega | (simp; done) | (simp; omega)) _)), (Out.refl _ _).later (by refine Since.out ?_; repeat (first | with_reducible assumption | with_reducible exact Since.refl _ | with_reducible refine Since.later ?_ (by with_reducible assumption) | with_reducible refine Since.only ?_ (by with_reducible assumption) (by first | assumption | omega | (simp; done) | (simp; omega)) | with_reducible refine Since.alloc ?_ _ | with_reducible refine Since.drewN ?_ _ | with_reducible refine Since.drew ?_ | with_reducible refine Since.set ?_ (by first | assumption | omega | (simp; done) | (simp; omega)) _))⟩
    · have E : Hid (askE L p k t = 0) := Lib.hid (by unfold askE; rw [if_pos hok, hf, if_neg (by simp), if_neg h8])
      have EL : Hid (askL L p k t = L ++ [⟨p, k, t⟩]) := Lib.hid (by unfold askL; rw [E.out, if_pos rfl])
      have HI : Hid (AInv (L ++ [⟨p, k, t⟩])) := Lib.hid (by have := h.inv.ask p k t; rw [EL.out] at this; exact this)
      have h8' : ((L.length : Int) == 8) = false := by simp; omega
      have HF : Hid (putI (askF L) k (.agg #[.int .i64 p, .int .i64 t]) = askF (L ++ [⟨p, k, t⟩])) := Lib.hid (askF_put hf)
      have HN : Hid ((askF L k).isSome = false) := Lib.hid (by unfold askF; rw [hf]; rfl)
      have hfew := h.inv.few
      have H := Lib.hid h
      clear h hok hf h8
      go_enter Try.func20, Try.ntmps20
      go_wp2_with (first | (go_at_call 19; refine (path_any p _).mono ?_; rintro e w' ⟨rfl, rfl⟩) | (go_at_call 29; refine (may_any k _).mono ?_; rintro e w' ⟨rfl, rfl⟩) | (go_at_call 32; refine (time_any t _).mono ?_; rintro e w' ⟨rfl, rfl⟩) | (at_mapUpdate; refine wpList_store_I _ rfl _ _ _ 68 rfl 3 73 Try.underlying3 Try.askMap b L.length (askF L) rfl (H.out.mp.alloc _) (by unfold maxLen; omega) k (.agg #[.int .i64 p, .int .i64 t]) rfl rfl HW.out ?_; intro w1 hm1 ht1))
      rw [HF.out, HN.out] at hm1
      go_ret
      have ho := Out.of_only (turned_only ht1)
      refine ⟨by rw [E.out]; rfl, ?_, (Out.refl w [b]).alloc _ |>.trans ho⟩
      rw [EL.out]
      have hne := H.out.ne
      exact ⟨ho.block' (H.out.bl.alloc _) (by simpa using hne), by rw [List.length_append]; simpa using hm1, HI.out, hne⟩

theorem ansB_err {L : List Asked} {p k t lim : Int} (h : ansE p k t lim ≠ 0) : ansB L p k t lim = false := by unfold ansB; rw [decide_eq_false h]; rfl
theorem ansB_some {L : List Asked} {p k t lim : Int} {a : Asked} (h : ansE p k t lim = 0) (hf : fnd L k = some a) : ansB L p k t lim = decide (Hits a p k t lim) := by unfold ansB; rw [decide_eq_true h, hf]; rfl
theorem ansB_none {L : List Asked} {p k t lim : Int} (hf : fnd L k = none) : ansB L p k t lim = false := by unfold ansB; rw [hf]; simp

set_option maxHeartbeats 1600000 in
theorem panswer_any (g b : Nat) (L : List Asked) (p k t lim : Int) (w : World) (h : Pr w g b L) :
    Calls Try.prog 21 #[.pointer (some ⟨g, 0, none⟩), .int .i64 p, .int .i64 k, .int .i64 t, .int .i64 lim] w fun e w' => e = .returned (.tuple #[.bool (ansB L p k t lim), errV (ansE p k t lim)]) ∧ Pr w' g b (ansL L p k t lim) ∧ Out w w' [b] := by
  have c0 : w.cell? ⟨g, 0, none⟩ = some (.map (some b)) := h.bl.cell 0
  have lg := h.bl.lt
  by_cases hok : AskOk p k t ∧ 0 ≤ lim ∧ lim ≤ 100000
  case neg =>
    have E : Hid (ansE p k t lim = 1) := Lib.hid (by unfold ansE; rw [if_neg hok])
    have EB : Hid (ansB L p k t lim = false) := Lib.hid (ansB_err (by rw [E.out]; decide))
    have EL : Hid (ansL L p k t lim = L) := Lib.hid (by unfold ansL; rw [EB.out, if_neg (by decide)])
    have H := Lib.hid h
    clear h
    by_cases a : pathB p = true
    case neg =>
      have a' : pathB p = false := by simpa using a
      clear a hok
      go_enter Try.func21, Try.ntmps21
      go_wp2_with (first | (go_at_call 19; refine (path_any p _).mono ?_; rintro e w' ⟨rfl, rfl⟩) | (go_at_call 29; refine (may_any k _).mono ?_; rintro e w' ⟨rfl, rfl⟩) | (go_at_call 32; (first | ((with_reducible refine (time_any t _).mono ?_); rintro e w' ⟨rfl, rfl⟩) | ((with_reducible refine (time_any lim _).mono ?_); rintro e w' ⟨rfl, rfl⟩))))
      go_ret2
      exact ⟨by rw [E.out, EB.out]; rfl, by rw [EL.out]; exact H.out, Out.refl _ _⟩
    by_cases c : mayB k = true
    case neg =>
      have c' : mayB k = false := by simpa using c
      clear c hok
      go_enter Try.func21, Try.ntmps21
      go_wp2_with (first | (go_at_call 19; refine (path_any p _).mono ?_; rintro e w' ⟨rfl, rfl⟩) | (go_at_call 29; refine (may_any k _).mono ?_; rintro e w' ⟨rfl, rfl⟩) | (go_at_call 32; (first | ((with_reducible refine (time_any t _).mono ?_); rintro e w' ⟨rfl, rfl⟩) | ((with_reducible refine (time_any lim _).mono ?_); rintro e w' ⟨rfl, rfl⟩))))
      go_ret2
      exact ⟨by rw [E.out, EB.out]; rfl, by rw [EL.out]; exact H.out, Out.refl _ _⟩
    by_cases d : timeB t = true
    case neg =>
      have d' : timeB t = false := by simpa using d
      clear d hok
      go_enter Try.func21, Try.ntmps21
      go_wp2_with (first | (go_at_call 19; refine (path_any p _).mono ?_; rintro e w' ⟨rfl, rfl⟩) | (go_at_call 29; refine (may_any k _).mono ?_; rintro e w' ⟨rfl, rfl⟩) | (go_at_call 32; (first | ((with_reducible refine (time_any t _).mono ?_); rintro e w' ⟨rfl, rfl⟩) | ((with_reducible refine (time_any lim _).mono ?_); rintro e w' ⟨rfl, rfl⟩))))
      go_ret2
      exact ⟨by rw [E.out, EB.out]; rfl, by rw [EL.out]; exact H.out, Out.refl _ _⟩
    have d : timeB lim = false := timeB_no (fun q => hok ⟨⟨pathB_iff.1 a, mayB_iff.1 c, timeB_iff.1 d⟩, q⟩)
    clear hok
    go_enter Try.func21, Try.ntmps21
    go_wp2_with (first | (go_at_call 19; refine (path_any p _).mono ?_; rintro e w' ⟨rfl, rfl⟩) | (go_at_call 29; refine (may_any k _).mono ?_; rintro e w' ⟨rfl, rfl⟩) | (go_at_call 32; (first | ((with_reducible refine (time_any t _).mono ?_); rintro e w' ⟨rfl, rfl⟩) | ((with_reducible refine (time_any lim _).mono ?_); rintro e w' ⟨rfl, rfl⟩))))
    go_ret2
    exact ⟨by rw [E.out, EB.out]; rfl, by rw [EL.out]; exact H.out, Out.refl _ _⟩
  have a : pathB p = true := pathB_iff.2 hok.1.1
  have c : mayB k = true := mayB_iff.2 hok.1.2.1
  have d : timeB t = true := timeB_iff.2 hok.1.2.2
  have d2 : timeB lim = true := timeB_iff.2 hok.2
  have E : Hid (ansE p k t lim = 0) := Lib.hid (by unfold ansE; rw [if_pos hok])
  have hwf : (Lit.int .i64 k).wf = true := WalkArith.wf_i64 (by have := hok.1.2.1; unfold MayBe at this; omega)
  have HW := Lib.hid hwf
  clear hwf
  cases hf : fnd L k with
  | none =>
    have EB : Hid (ansB L p k t lim = false) := Lib.hid (ansB_none hf)
    have EL : Hid (ansL L p k t lim = L) := Lib.hid (by unfold ansL; rw [EB.out, if_neg (by decide)])
    have hlook := h.mp.look Try.underlying3 Try.askMap (Try.askZero w) HW.out (r := none) (by unfold askF; rw [hf]; rfl)
    simp only [Option.getD_none, Option.isSome_none] at hlook
    have H := Lib.hid h
    clear h hok hf
    go_enter Try.func21, Try.ntmps21
    go_wp2_with (first | (go_at_call 19; refine (path_any p _).mono ?_; rintro e w' ⟨rfl, rfl⟩) | (go_at_call 29; refine (may_any k _).mono ?_; rintro e w' ⟨rfl, rfl⟩) | (go_at_call 32; (first | ((with_reducible refine (time_any t _).mono ?_); rintro e w' ⟨rfl, rfl⟩) | ((with_reducible refine (time_any lim _).mono ?_); rintro e w' ⟨rfl, rfl⟩))))
    go_ret2
    exact ⟨by rw [E.out, EB.out]; rfl, by rw [EL.out]; exact H.out.later (by refine Since.out ?_; repeat (first | with_reducible assumption | with_reducible exact Since.refl _ | with_reducible refine Since.later ?_ (by with_reducible assumption) | with_reducible refine Since.only ?_ (by with_reducible assumption) (by first | assumption | omega | (simp; done) | (simp; omega)) | with_reducible refine Since.alloc ?_ _ | with_reducible refine Since.drewN ?_ _ | with_reducible refine Since.drew ?_ | with_reducible refine Since.set ?_ (by first | assumption | omega | (simp; done) | (simp; omega)) _)), (Out.refl _ _).later (by refine Since.out ?_; repeat (first | with_reducible assumption | with_reducible exact Since.refl _ | with_reducible refine Since.later ?_ (by with_reducible assumption) | with_reducible refine Since.only ?_ (by with_reducible assumption) (by first | assumption | omega | (simp; done) | (simp; omega)) | with_reducible refine Since.alloc ?_ _ | with_reducible refine Since.drewN ?_ _ | with_reducible refine Since.drew ?_ | with_reducible refine Since.set ?_ (by first | assumption | omega | (simp; done) | (simp; omega)) _))⟩
  | some x =>
    have hx := h.inv.ok x (fnd_mem hf).1
    have hxk := (fnd_mem hf).2
    have hlook := h.mp.look Try.underlying3 Try.askMap (Try.askZero w) HW.out (r := some (askV x)) (by unfold askF; rw [hf]; rfl)
    simp only [askV, Option.getD_some, Option.isSome_some] at hlook
    obtain ⟨⟨x1, x2⟩, _, x3, x4⟩ := hx
    obtain ⟨⟨_, _, t1, t2⟩, m1, m2⟩ := hok
    have EB0 : Hid (ansB L p k t lim = decide (Hits x p k t lim)) := Lib.hid (ansB_some E.out hf)
    have HC : Hid (askF L k = some (askV x)) := Lib.hid (by unfold askF; rw [hf]; rfl)
    have HLE := Lib.hid (cut_length h.inv hf)
    have HXK := Lib.hid hxk
    obtain ⟨xp, hxp⟩ : ∃ q, x.p = q := ⟨_, rfl⟩
    obtain ⟨xt, hxt⟩ : ∃ q, x.t = q := ⟨_, rfl⟩
    rw [hxp] at hlook x1 x2
    rw [hxt] at hlook x3 x4
    have HXP := Lib.hid hxp
    have HXT := Lib.hid hxt
    have H := Lib.hid h
    clear h hf hxp hxt hxk
    by_cases hp : xp = p
    case neg =>
      have EB : Hid (ansB L p k t lim = false) := Lib.hid (by rw [EB0.out, decide_eq_false]; rintro ⟨_, q, _⟩; rw [HXP.out] at q; exact hp q)
      have EL : Hid (ansL L p k t lim = L) := Lib.hid (by unfold ansL; rw [EB.out, if_neg (by decide)])
      have hp' : (xp != p) = true := by simpa using hp
      clear hp
      go_enter Try.func21, Try.ntmps21
      go_wp2_with (first | (go_at_call 19; refine (path_any p _).mono ?_; rintro e w' ⟨rfl, rfl⟩) | (go_at_call 29; refine (may_any k _).mono ?_; rintro e w' ⟨rfl, rfl⟩) | (go_at_call 32; (first | ((with_reducible refine (time_any t _).mono ?_); rintro e w' ⟨rfl, rfl⟩) | ((with_reducible refine (time_any lim _).mono ?_); rintro e w' ⟨rfl, rfl⟩))))
      go_ret2
      exact ⟨by rw [E.out, EB.out]; rfl, by rw [EL.out]; exact H.out.later (by refine Since.out ?_; repeat (first | with_reducible assumption | with_reducible exact Since.refl _ | with_reducible refine Since.later ?_ (by with_reducible assumption) | with_reducible refine Since.only ?_ (by with_reducible assumption) (by first | assumption | omega | (simp; done) | (simp; omega)) | with_reducible refine Since.alloc ?_ _ | with_reducible refine Since.drewN ?_ _ | with_reducible refine Since.drew ?_ | with_reducible refine Since.set ?_ (by first | assumption | omega | (simp; done) | (simp; omega)) _)), (Out.refl _ _).later (by refine Since.out ?_; repeat (first | with_reducible assumption | with_reducible exact Since.refl _ | with_reducible refine Since.later ?_ (by with_reducible assumption) | with_reducible refine Since.only ?_ (by with_reducible assumption) (by first | assumption | omega | (simp; done) | (simp; omega)) | with_reducible refine Since.alloc ?_ _ | with_reducible refine Since.drewN ?_ _ | with_reducible refine Since.drew ?_ | with_reducible refine Since.set ?_ (by first | assumption | omega | (simp; done) | (simp; omega)) _))⟩
    have hp' : (xp != p) = false := by simpa using hp
    by_cases ht : t < xt
    · have EB : Hid (ansB L p k t lim = false) := Lib.hid (by rw [EB0.out, decide_eq_false]; rintro ⟨_, _, q, _⟩; rw [HXT.out] at q; omega)
      have EL : Hid (ansL L p k t lim = L) := Lib.hid (by unfold ansL; rw [EB.out, if_neg (by decide)])
      clear hp
      go_enter Try.func21, Try.ntmps21
      go_wp2_with (first | (go_at_call 19; refine (path_any p _).mono ?_; rintro e w' ⟨rfl, rfl⟩) | (go_at_call 29; refine (may_any k _).mono ?_; rintro e w' ⟨rfl, rfl⟩) | (go_at_call 32; (first | ((with_reducible refine (time_any t _).mono ?_); rintro e w' ⟨rfl, rfl⟩) | ((with_reducible refine (time_any lim _).mono ?_); rintro e w' ⟨rfl, rfl⟩))))
      go_ret2
      exact ⟨by rw [E.out, EB.out]; rfl, by rw [EL.out]; exact H.out.later (by refine Since.out ?_; repeat (first | with_reducible assumption | with_reducible exact Since.refl _ | with_reducible refine Since.later ?_ (by with_reducible assumption) | with_reducible refine Since.only ?_ (by with_reducible assumption) (by first | assumption | omega | (simp; done) | (simp; omega)) | with_reducible refine Since.alloc ?_ _ | with_reducible refine Since.drewN ?_ _ | with_reducible refine Since.drew ?_ | with_reducible refine Since.set ?_ (by first | assumption | omega | (simp; done) | (simp; omega)) _)), (Out.refl _ _).later (by refine Since.out ?_; repeat (first | with_reducible assumption | with_reducible exact Since.refl _ | with_reducible refine Since.later ?_ (by with_reducible assumption) | with_reducible refine Since.only ?_ (by with_reducible assumption) (by first | assumption | omega | (simp; done) | (simp; omega)) | with_reducible refine Since.alloc ?_ _ | with_reducible refine Since.drewN ?_ _ | with_reducible refine Since.drew ?_ | with_reducible refine Since.set ?_ (by first | assumption | omega | (simp; done) | (simp; omega)) _))⟩
    have ht' : decide (t < xt) = false := by simpa using ht
    by_cases hl : lim < t - xt
    · have EB : Hid (ansB L p k t lim = false) := Lib.hid (by rw [EB0.out, decide_eq_false]; rintro ⟨_, _, _, q⟩; rw [HXT.out] at q; omega)
      have EL : Hid (ansL L p k t lim = L) := Lib.hid (by unfold ansL; rw [EB.out, if_neg (by decide)])
      clear hp ht
      go_enter Try.func21, Try.ntmps21
      go_wp2_with (first | (go_at_call 19; refine (path_any p _).mono ?_; rintro e w' ⟨rfl, rfl⟩) | (go_at_call 29; refine (may_any k _).mono ?_; rintro e w' ⟨rfl, rfl⟩) | (go_at_call 32; (first | ((with_reducible refine (time_any t _).mono ?_); rintro e w' ⟨rfl, rfl⟩) | ((with_reducible refine (time_any lim _).mono ?_); rintro e w' ⟨rfl, rfl⟩))))
      go_ret2
      exact ⟨by rw [E.out, EB.out]; rfl, by rw [EL.out]; exact H.out.later (by refine Since.out ?_; repeat (first | with_reducible assumption | with_reducible exact Since.refl _ | with_reducible refine Since.later ?_ (by with_reducible assumption) | with_reducible refine Since.only ?_ (by with_reducible assumption) (by first | assumption | omega | (simp; done) | (simp; omega)) | with_reducible refine Since.alloc ?_ _ | with_reducible refine Since.drewN ?_ _ | with_reducible refine Since.drew ?_ | with_reducible refine Since.set ?_ (by first | assumption | omega | (simp; done) | (simp; omega)) _)), (Out.refl _ _).later (by refine Since.out ?_; repeat (first | with_reducible assumption | with_reducible exact Since.refl _ | with_reducible refine Since.later ?_ (by with_reducible assumption) | with_reducible refine Since.only ?_ (by with_reducible assumption) (by first | assumption | omega | (simp; done) | (simp; omega)) | with_reducible refine Since.alloc ?_ _ | with_reducible refine Since.drewN ?_ _ | with_reducible refine Since.drew ?_ | with_reducible refine Since.set ?_ (by first | assumption | omega | (simp; done) | (simp; omega)) _))⟩
    have hl' : decide (lim < t - xt) = false := by simpa using hl
    have EB : Hid (ansB L p k t lim = true) := Lib.hid (by rw [EB0.out, decide_eq_true]; exact ⟨HXK.out, by rw [HXP.out]; exact hp, by rw [HXT.out]; omega, by rw [HXT.out]; omega⟩)
    have EL : Hid (ansL L p k t lim = cut L k) := Lib.hid (by unfold ansL; rw [EB.out, if_pos rfl])
    clear hp ht hl
    go_enter Try.func21, Try.ntmps21
    go_wp2_with (first | (go_at_call 19; refine (path_any p _).mono ?_; rintro e w' ⟨rfl, rfl⟩) | (go_at_call 29; refine (may_any k _).mono ?_; rintro e w' ⟨rfl, rfl⟩) | (go_at_call 32; (first | ((with_reducible refine (time_any t _).mono ?_); rintro e w' ⟨rfl, rfl⟩) | ((with_reducible refine (time_any lim _).mono ?_); rintro e w' ⟨rfl, rfl⟩))) | (at_delete; refine wpList_drop_I _ rfl _ _ 68 3 rfl 73 Try.underlying3 Try.askMap b L.length (askF L) rfl (H.out.mp.alloc _) k rfl HW.out ?_; intro w1 hm1 ht1))
    rw [HC.out, askF_del] at hm1
    go_ret2
    have ho := Out.of_only (turned_only ht1)
    refine ⟨by rw [E.out, EB.out]; rfl, ?_, (Out.refl w [b]).alloc _ |>.trans ho⟩
    rw [EL.out]
    have hne := H.out.ne
    have hle := HLE.out
    exact ⟨ho.block' (H.out.bl.alloc _) (by simpa using hne), by rw [show (cut L k).length = L.length - 1 from by omega]; simpa using hm1, H.out.inv.cut k, hne⟩
end Go.Proofs.Ythnolkbolmbkdaa
