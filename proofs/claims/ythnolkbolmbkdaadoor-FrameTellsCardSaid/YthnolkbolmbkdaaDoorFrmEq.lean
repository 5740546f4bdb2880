/- wiresame.Frame and wiresame.Frames on frames with the same parts. Condition: the numbers can be read. -/
import Derived.Test.YthnolkbolmbkdaaDoorFrm
import Derived.Test.YthnolkbolmbkdaaDoorSameR
namespace Go.Proofs.YthnolkbolmbkdaaDoor
open Go.ChangeShapes Go.WideShapes Go.ChangeAt Go.RowKit
set_option linter.unusedVariables false

set_option maxHeartbeats 1600000 in
theorem frmeqR (p q : FrmV) (w : World) (hf : p.f = q.f) (hp : FrmIn w p) (hq : FrmIn w q) :
    Calls Tryd.prog 40 #[p.agg, q.agg] w fun e w' => e = .returned (.bool true) ∧ Below w.heap.size w w' := by
  obtain ⟨⟨k, L, d⟩, A, ca⟩ := p
  obtain ⟨f2, B, cb⟩ := q
  simp only at hf
  subst hf
  have HP := Lib.hid hp.nums
  have HQ := Lib.hid hq.nums
  clear hp hq
  simp only [FrmV.v] at HP HQ
  dsimp only [FrmV.agg]
  have FE := Lib.hid (fun W h1 h2 => inteqR (.slice A L.length ca) (.slice B L.length cb) L W h1 h2)
  obtain ⟨n, hn⟩ : ∃ n, L.length = n := ⟨_, rfl⟩
  rw [hn] at HP HQ FE ⊢
  clear hn
  have h1 : (k == k) = true := by simp
  have h2 : (d.toList == d.toList) = true := by simp
  go_enter Tryd.func40, Tryd.ntmps40
  trace "A"; go_wp2_with fail
  refine (FE.out _ (HP.out.keep (by refine Since.out ?_; repeat (first | with_reducible assumption | with_reducible exact Since.refl _ | with_reducible refine Since.later ?_ (by with_reducible assumption) | with_reducible refine Since.only ?_ (by with_reducible assumption) (by first | assumption | omega | (simp; done) | (simp; omega)) | with_reducible refine Since.alloc ?_ _ | with_reducible refine Since.drewN ?_ _ | with_reducible refine Since.drew ?_ | with_reducible refine Since.set ?_ (by first | assumption | omega | (simp; done) | (simp; omega)) _))) (HQ.out.keep (by refine Since.out ?_; repeat (first | with_reducible assumption | with_reducible exact Since.refl _ | with_reducible refine Since.later ?_ (by with_reducible assumption) | with_reducible refine Since.only ?_ (by with_reducible assumption) (by first | assumption | omega | (simp; done) | (simp; omega)) | with_reducible refine Since.alloc ?_ _ | with_reducible refine Since.drewN ?_ _ | with_reducible refine Since.drew ?_ | with_reducible refine Since.set ?_ (by first | assumption | omega | (simp; done) | (simp; omega)) _)))).mono ?_
  rintro e w1 ⟨rfl, hb1⟩
  have hs1 : Since w w1 := (by refine Since.out ?_; repeat (first | with_reducible assumption | with_reducible exact Since.refl _ | with_reducible refine Since.later ?_ (by with_reducible assumption) | with_reducible refine Since.only ?_ (by with_reducible assumption) (by first | assumption | omega | (simp; done) | (simp; omega)) | with_reducible refine Since.alloc ?_ _ | with_reducible refine Since.drewN ?_ _ | with_reducible refine Since.drew ?_ | with_reducible refine Since.set ?_ (by first | assumption | omega | (simp; done) | (simp; omega)) _))
  trace "B"; go_wp2_with fail
  go_ret
  exact ⟨rfl, hs1⟩
end Go.Proofs.YthnolkbolmbkdaaDoor
