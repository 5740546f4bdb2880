/- A region that draws its order, reads first and writes last, inside a round of a range over a function: it calls no function, so it goes as outside of one. No condition of its own. -/
import Derived.Test.YtjjmoaaongnjiaaGreatDoorBase
import Derived.StillTail
import Derived.StillTactics
import Derived.OrdersIn
import Derived.TacticsIn
import Derived.Deep.RegionHeld
namespace Go.Proofs.YtjjmoaaongnjiaaGreatDoor
open Go.RowKit
set_option linter.unusedVariables false

def CalmR : Result Next → Prop
  | .ok (.value _) _ => True
  | .ok .skip _ => True
  | .halt _ _ => True
  | _ => False
section
variable {F : Fence} {n : Nat} {P : Program} {ops : Array Oper} {md : Region.Mode}
theorem calm_upon {o : Oper} {a : Act} {K K' : Act → World → Prop} {Q : Exit → Act → World → Prop} {r : Result Next} (hr : CalmR r) (hk : ∀ a w, K a w → K' a w) (h : o.upon P a K Q r) : o.uponIn F n P a K' Q r := by
  cases r with
  | ok x w' =>
    cases x with
    | value v => exact hk _ _ h
    | skip => exact hk _ _ h
    | _ => exact hr.elim
  | halt e w' => cases e <;> exact h
def calmOp : Op → Bool
  | .move _ => true | .assign _ => true | .load _ _ => true | .store _ _ _ => true | .indexAddr _ _ _ => true | .fieldAddr _ _ _ => true
  | .build _ _ => true | .buildSlice _ _ _ => true
  | .call c => match c.callee with | .builtin .append => true | _ => false
  | _ => false
structure CalmO (P : Program) (o : Oper) : Prop where
  nd : ∀ c, o.op ≠ .defer c
  ab : ∀ (a : Act) w, o.about P w a.eval = none
  ex : ∀ (a : Act) w, CalmR ((execOp a.eval o).run P w)
theorem calm_v (s : Sem Value) (w : World) : CalmR ((do pure (Next.value (← s)) : Sem Next).run P w) := by
  simp only [Sem.run_bind]
  cases h : s.run P w with
  | ok x w' => trivial
  | halt e w' => trivial
theorem calm_u (s : Sem Unit) (w : World) : CalmR ((do s; pure Next.skip : Sem Next).run P w) := by
  simp only [Sem.run_bind]
  cases h : s.run P w with
  | ok x w' => trivial
  | halt e w' => trivial
theorem calm_of {o : Oper} (h : calmOp o.op = true) : CalmO P o := by
  refine ⟨(fun c hc => by rw [hc] at h; cases h), fun a w => ?_, fun a w => ?_⟩
  · unfold Oper.about
    cases ho : o.op with
    | call c =>
      rw [ho] at h
      obtain ⟨callee, args, ats⟩ := c
      cases callee with
      | builtin b =>
        cases b <;> first | cases h | skip
        simp [resolve, Target.leads]
      | _ => cases h
    | _ => rfl
  · unfold execOp
    cases ho : o.op with
    | move x => trivial
    | assign x => trivial
    | load t x => exact calm_v _ w
    | store t x y => exact calm_u _ w
    | indexAddr t x y => exact calm_v _ w
    | fieldAddr t x f => exact calm_v _ w
    | build t ps => exact calm_v _ w
    | buildSlice t l ps => exact calm_v _ w
    | call c =>
      rw [ho] at h
      obtain ⟨callee, args, ats⟩ := c
      cases callee with
      | builtin b =>
        cases b <;> first | cases h | skip
        simp only [resolve, invoke]
        exact calm_v _ w
      | _ => cases h
    | _ => rw [ho] at h; cases h
theorem wpAny_in {Q : Exit → Act → World → Prop} (hno : ¬ LetsOut Q) (hc : ∀ (i : Nat) (o : Oper), ops[i]? = some o → CalmO P o) : ∀ (fuel : Nat) (listed : Array Bool) (a : Act) (w : World), wpAny P md ops Q fuel listed a w → wpAnyIn F n P md ops Q fuel listed a w
  | 0, _, _, _, h => h
  | fuel + 1, listed, a, w, h => ⟨h.1, fun i hi => by
      have := h.2 i hi
      unfold wpOp at this
      unfold wpOpIn
      cases ho : ops[i]? with
      | none => rw [ho] at this; exact wpAny_in hno hc fuel _ _ _ this
      | some o =>
        rw [ho] at this
        simp only at this ⊢
        have hco := hc i o ho
        by_cases hw : Region.wanted o (yielded ops a.tmps) = true
        · rw [if_pos hw] at this ⊢
          refine ⟨(fun f hf => by rw [hco.ab] at hf; cases hf), ?_⟩
          rw [Oper.semAt_eq _ _ _ hco.nd]
          exact calm_upon (hco.ex a w) (fun a w hk => wpAny_in hno hc fuel _ _ _ hk) (this.resolve_right fun h => hno h.2)
        · rw [if_neg hw] at this ⊢
          exact ⟨(fun f hf => by rw [hco.ab] at hf; cases hf), wpAny_in hno hc fuel _ _ _ this⟩⟩
theorem wpIn_region_still_tail {id : Nat} {Q : Exit → Act → World → Prop} {a : Act} {w : World} {l : List Oper} (m : Nat) (hm : P.follows .mixedOrders = true) (hB : Region.lexTailB .any l.toArray m = true) (hcl : l.all (fun o => calmOp o.op) = true) (hno : ¬ LetsOut Q)
    (h : wpStill P l.toArray w.drew (fun a' => wpList P l.toArray Q (l.drop m) a' w.drew) (l.take m) a) : (Code.region id l.toArray true).wpIn F n P Q a w := by
  have hB' := hB
  simp only [Region.lexTailB, Bool.and_eq_true, decide_eq_true_eq] at hB
  obtain ⟨⟨⟨⟨hsel, hn⟩, hs⟩, hc⟩, hlex⟩ := hB
  have hn' : m < l.length := by simpa using hn
  have htl : (l.take m).length = m := by simp; omega
  have hdl : (l.drop m).length = l.toArray.size - m := by simp
  have inv0 : HeadInv .any l.toArray m (Array.replicate l.toArray.size false) :=
    ⟨by simp, fun j oj _ hl => (by rw [getD_replicate_false] at hl; cases hl), fun t _ ht => getD_in (by simpa using ht) (getD_replicate_false _ _)⟩
  have H := wpAnyL_lex (md := .any) (g := l.toArray.size - m) hsel hs hc hn (l.take m) 0 _ a (fun j hj => by
    have hj' : j < m := by rw [htl] at hj; exact hj
    simp [hj']) (by simpa using htl) inv0 (by rw [htl]; exact hlex) h
  refine wpIn_region_any hm (wpAny_in hno (fun i o ho => calm_of (List.all_eq_true.1 hcl o (by
    have := List.mem_of_getElem? (l := l) (i := i) (a := o) (by simpa using ho)
    exact this))) _ _ _ _ ?_)
  have := wpAny_of_head (Q' := Q) (g := l.toArray.size - m) (fun listed a' hL => by
    have := wpAny_of_seq (md := .any) (Q' := Q) (l.drop m) m listed a' w.drew (fun j => by simp [List.getElem?_drop]) (by rw [hdl]; exact hL.1) hL.2
    rwa [hdl] at this) _ _ _ H
  rw [htl, show m + (l.toArray.size - m) = l.toArray.size by omega] at this
  exact this
theorem region_in_held {id : Nat} {Q : Exit → Act → World → Prop} {a : Act} {w : World} {S : World → Prop} (hm : P.follows .mixedOrders = true) (hcl : ops.toList.all (fun o => calmOp o.op) = true) (hno : ¬ LetsOut Q)
    (h : wpAnyH P .any ops Q S ops.size (Array.replicate ops.size false) a w.drew) : (Code.region id ops true).wpIn F n P Q a w :=
  wpIn_region_any hm (wpAny_in hno (fun i o ho => calm_of (List.all_eq_true.1 hcl o (List.mem_of_getElem? (i := i) (by simpa using ho)))) _ _ _ _ (wpAny_of_held _ _ _ _ h))
end
end Go.Proofs.YtjjmoaaongnjiaaGreatDoor
