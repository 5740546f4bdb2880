/- Package move in plain words, what a Mover's block holds, and the contract of move.New. -/
import Derived.Test.YthnolkbolmbkdaaRetire
import Derived.Test.YthnolkbolmbkdaaProof
import Derived.Test.YthnolkbolmbkdaaPathAny
namespace Go.Proofs.Ythnolkbolmbkdaa
open Go.ChangeShapes Go.WideShapes Go.ChangeAt Go.RowKit
set_option linter.unusedVariables false

structure Pth where
  i : Int
  o : Int
  k : Bool
structure Pths where
  a : Pth
  b : Pth
  c : Pth
  d : Pth
def Pths.at (P : Pths) : Nat → Pth
  | 0 => P.a
  | 1 => P.b
  | 2 => P.c
  | _ => P.d
def Pths.put (P : Pths) (p : Pth) : Nat → Pths
  | 0 => { P with a := p }
  | 1 => { P with b := p }
  | 2 => { P with c := p }
  | _ => { P with d := p }
/-- what a Mover knows -/
structure MvS where
  P : Pths
  lim : Int
  L : List One
  N : List Int
  As : List Asked
  ta : Int
  tb : Int
abbrev mvCells (P : Pths) (gi gp : Nat) (ta tb : Int) : Array Value := #[.int .i64 P.a.i, .int .i64 P.a.o, .bool P.a.k, .int .i64 P.b.i, .int .i64 P.b.o, .bool P.b.k, .int .i64 P.c.i, .int .i64 P.c.o, .bool P.c.k, .int .i64 P.d.i, .int .i64 P.d.o, .bool P.d.k, .pointer (some ⟨gi, 0, none⟩), .pointer (some ⟨gp, 0, none⟩), .int .i64 ta, .int .i64 tb]
/-- where a Mover lies: its block, its IDs', their map's, its proofs', their map's, and the slice of IDs -/
structure MvB where
  g : Nat
  gi : Nat
  bi : Nat
  gp : Nat
  bp : Nat
  v : Value
def MvB.S (B : MvB) : List Nat := B.g :: B.gp :: B.bp :: B.gi :: B.bi :: blocks B.v
theorem MvB.inI (B : MvB) {k : Nat} (hk : k ∈ B.gi :: B.bi :: blocks B.v) : k ∈ B.S := List.mem_cons_of_mem _ (List.mem_cons_of_mem _ (List.mem_cons_of_mem _ hk))
theorem MvB.inP (B : MvB) {k : Nat} (hk : k ∈ [B.gp, B.bp]) : k ∈ B.S := by
  simp only [List.mem_cons, List.not_mem_nil, or_false] at hk
  rcases hk with rfl | rfl <;> simp [MvB.S]
theorem MvB.inG (B : MvB) {k : Nat} (hk : k ∈ [B.g]) : k ∈ B.S := by
  simp only [List.mem_cons, List.not_mem_nil, or_false] at hk
  subst hk; simp [MvB.S]
structure Mz (w : World) (B : MvB) (s : MvS) : Prop where
  bl : BlockIs w B.g 49 (mvCells s.P B.gi B.gp s.ta s.tb)
  iz : Iz w B.gi B.bi B.v s.lim s.L s.N
  pr : Pr w B.gp B.bp s.As
  ne : B.bi ≠ B.bp
theorem Mz.later {w w1 : World} {B : MvB} {s : MvS} (h : Mz w B s) (hb : Below w.heap.size w w1) : Mz w1 B s := ⟨h.bl.later hb, h.iz.later hb, h.pr.later hb, h.ne⟩
theorem Mz.kept {w w1 : World} {B : MvB} {s : MvS} {S : List Nat} (h : Mz w B s) (hg : Out w w1 S) (h1 : ∀ k, k ∈ B.S → k ∉ S) : Mz w1 B s :=
  ⟨hg.block' h.bl (h1 _ (by simp [MvB.S])), h.iz.kept hg (fun k hk => h1 k (B.inI hk)), h.pr.kept hg (h1 _ (by simp [MvB.S])) (h1 _ (by simp [MvB.S])), h.ne⟩
theorem Mz.lt {w : World} {B : MvB} {s : MvS} (h : Mz w B s) : ∀ k, k ∈ B.S → k < w.heap.size := by
  intro k hk
  simp only [MvB.S, List.mem_cons] at hk
  rcases hk with rfl | rfl | rfl | rfl | rfl | hk
  · exact h.bl.lt
  · exact h.pr.bl.lt
  · exact h.pr.mp.lt
  · exact h.iz.bl.lt
  · exact h.iz.mp.lt
  · exact h.iz.ls.lt k hk
theorem BlockIs.ne {w : World} {g g' : Nat} {t t' : TypeId} {cs cs' : Array Value} (h : BlockIs w g t cs) (h' : BlockIs w g' t' cs') (ht : t ≠ t') : g ≠ g' := by
  rintro rfl
  unfold BlockIs at h h'
  rw [h] at h'
  simp only [Option.some.injEq, Obj.cells.injEq] at h'
  exact ht h'.2.1
/-- the Mover's own block is none of the others -/
theorem Mz.ownG {w : World} {B : MvB} {s : MvS} (h : Mz w B s) : B.g ∉ B.gp :: B.bp :: B.gi :: B.bi :: blocks B.v := by
  simp only [List.mem_cons, not_or]
  exact ⟨h.bl.ne h.pr.bl (by decide), h.pr.mp.not_row h.bl, h.bl.ne h.iz.bl (by decide), h.iz.mp.not_row h.bl, h.iz.ls.apart h.bl (by decide)⟩
/-- what a call leaves of it -/
def MLeft (w w' : World) (B : MvB) (s : MvS) : Prop := ∃ v', Mz w' { B with v := v' } s ∧ Out w w' B.S ∧ ∀ k, k ∈ blocks v' → k ∈ blocks B.v ∨ w.heap.size ≤ k
theorem Mz.same {w w' : World} {B : MvB} {s : MvS} (h : Mz w B s) (hb : Below w.heap.size w w') : MLeft w w' B s := ⟨B.v, h.later hb, Out.of_below hb _, fun k hk => Or.inl hk⟩
/-- only its IDs changed -/
theorem Mz.ids {w w' : World} {B : MvB} {s : MvS} {L : List One} {N : List Int} (h : Mz w B s) (hi : ILeft w w' B.gi B.bi B.v s.lim L N) : MLeft w w' B { s with L := L, N := N } := by
  obtain ⟨v', hz, ho, hk⟩ := hi
  have hG := h.ownG
  simp only [List.mem_cons, not_or] at hG
  refine ⟨v', ⟨ho.block' h.bl (by simp only [List.mem_cons, not_or]; exact ⟨hG.2.2.1, hG.2.2.2.1, hG.2.2.2.2⟩), hz, h.pr.kept ho ?_ ?_, h.ne⟩, ho.mono (fun k hk => Or.inl (B.inI hk)), hk⟩
  · simp only [List.mem_cons, not_or]; exact ⟨h.pr.bl.ne h.iz.bl (by decide), h.iz.mp.not_row h.pr.bl, h.iz.ls.apart h.pr.bl (by decide)⟩
  · simp only [List.mem_cons, not_or]; exact ⟨fun e => h.pr.mp.not_row h.iz.bl e.symm, fun e => h.ne e.symm, h.iz.ls.not_map h.pr.mp⟩
/-- only its proofs changed -/
theorem Mz.proofs {w w' : World} {B : MvB} {s : MvS} {As : List Asked} (h : Mz w B s) (hp : Pr w' B.gp B.bp As) (ho : Out w w' [B.gp, B.bp]) : MLeft w w' B { s with As := As } := by
  have hG := h.ownG
  simp only [List.mem_cons, not_or] at hG
  refine ⟨B.v, ⟨ho.block' h.bl (by simp; exact ⟨hG.1, hG.2.1⟩), h.iz.kept ho ?_, hp, h.ne⟩, ho.mono (fun k hk => Or.inl (B.inP hk)), fun k hk => Or.inl hk⟩
  intro k hk
  simp only [List.mem_cons, List.not_mem_nil, or_false, not_or] at hk ⊢
  rcases hk with rfl | rfl | hk
  · exact ⟨h.iz.bl.ne h.pr.bl (by decide), h.pr.mp.not_row h.iz.bl⟩
  · exact ⟨fun e => h.iz.mp.not_row h.pr.bl e.symm, h.ne⟩
  · exact ⟨fun e => h.iz.ls.apart h.pr.bl (by decide) (e ▸ hk), fun e => h.iz.ls.not_map h.pr.mp (e ▸ hk)⟩
/-- only its own block changed -/
theorem Mz.own {w w' : World} {B : MvB} {s s' : MvS} (h : Mz w B s) (hb : BlockIs w' B.g 49 (mvCells s'.P B.gi B.gp s'.ta s'.tb)) (ho : Out w w' [B.g]) (e1 : s'.lim = s.lim) (e2 : s'.L = s.L) (e3 : s'.N = s.N) (e4 : s'.As = s.As) : MLeft w w' B s' := by
  have hG := h.ownG
  simp only [List.mem_cons, not_or] at hG
  refine ⟨B.v, ⟨hb, ?_, ?_, h.ne⟩, ho.mono (fun k hk => Or.inl (B.inG hk)), fun k hk => Or.inl hk⟩
  · rw [e1, e2, e3]
    refine h.iz.kept ho (fun k hk => ?_)
    simp only [List.mem_cons, List.not_mem_nil, or_false] at hk ⊢
    rintro rfl
    rcases hk with hk | hk | hk
    · exact hG.2.2.1 hk
    · exact hG.2.2.2.1 hk
    · exact hG.2.2.2.2 hk
  · rw [e4]
    exact h.pr.kept ho (by simp; exact fun e => hG.1 e.symm) (by simp; exact fun e => hG.2.1 e.symm)
/-- one call's leavings behind another's -/
theorem MLeft.trans {w w1 w2 : World} {B : MvB} {s1 s2 : MvS} (h : MLeft w w1 B s1) (hle : w.heap.size ≤ w1.heap.size) (h2 : ∀ v', Mz w1 { B with v := v' } s1 → MLeft w1 w2 { B with v := v' } s2) : MLeft w w2 B s2 := by
  obtain ⟨v1, hz1, ho1, hk1⟩ := h
  obtain ⟨v2, hz2, ho2, hk2⟩ := h2 v1 hz1
  refine ⟨v2, hz2, ho1.then' ho2 (fun k hk => ?_), fun k hk => ?_⟩
  · simp only [MvB.S, List.mem_cons] at hk ⊢
    rcases hk with h | h | h | h | h | h
    · exact Or.inl (by simp [h])
    · exact Or.inl (by simp [h])
    · exact Or.inl (by simp [h])
    · exact Or.inl (by simp [h])
    · exact Or.inl (by simp [h])
    · rcases hk1 k h with h | h
      · exact Or.inl (by simp [h])
      · exact Or.inr h
  · rcases hk2 k hk with h | h
    · exact hk1 k h
    · exact Or.inr (Nat.le_trans hle h)
theorem mnew_no (n : Int) (h : ¬ (1 ≤ n ∧ n ≤ 8)) (w : World) : Calls Try.prog 4 #[.int .i64 n] w fun e w' => e = .returned (.tuple #[.pointer none, errV 1]) ∧ w = w' := by
  have I := Lib.hid (fun W => inew_no n h W)
  clear h
  go_enter Try.func4, Try.ntmps4
  go_wp2_with fail
  refine (I.out _).mono ?_
  rintro e w1 ⟨rfl, rfl⟩
  trace "A"; go_wp2_with fail
  go_ret2
  exact ⟨rfl, rfl⟩
/-- what a new Mover knows -/
def mv0 (n : Int) : MvS := ⟨⟨⟨0, 0, true⟩, ⟨0, 0, false⟩, ⟨0, 0, false⟩, ⟨0, 0, false⟩⟩, n, [], [], [], 0, -1⟩
theorem mnew_yes (n : Int) (h1 : 1 ≤ n) (h2 : n ≤ 8) (w : World) : Calls Try.prog 4 #[.int .i64 n] w fun e w' => ∃ B : MvB, e = .returned (.tuple #[.pointer (some ⟨B.g, 0, none⟩), .nilIface]) ∧ Mz w' B (mv0 n) ∧ Below w.heap.size w w' ∧ ∀ k, k ∈ B.S → w.heap.size ≤ k := by
  have I := Lib.hid (fun W => inew_yes n h1 h2 W)
  go_enter Try.func4, Try.ntmps4
  go_wp2_with fail
  refine (I.out _).mono ?_
  rintro e w1 ⟨rfl, hi1, hb1⟩
  have hs1 : Since w w1 := hb1
  have HI := Lib.hid hi1
  clear hi1 hb1
  trace "A"; go_wp2_with fail
  refine (pnew _).mono ?_
  rintro e w2 ⟨rfl, hp2, hb2⟩
  have hs2 := hs1.later hb2
  have HI2 := Lib.hid (HI.out.later hb2)
  have HP := Lib.hid hp2
  have hle := hs1.le
  have hlt : w1.heap.size < w2.heap.size := hp2.mp.lt
  have hlt2 : w1.heap.size + 1 < w2.heap.size := hp2.bl.lt
  clear hp2 hb2
  trace "B"; go_wp2_with fail
  go_ret2
  refine ⟨⟨w2.heap.size, w.heap.size + 1, w.heap.size, w1.heap.size + 1, w1.heap.size, .slice none 0 0⟩, rfl, ⟨BlockIs.fresh _ _ _, HI2.out.later ((Since.refl _).alloc _), HP.out.later ((Since.refl _).alloc _), ?_⟩, (by refine Since.out ?_; repeat (first | with_reducible assumption | with_reducible exact Since.refl _ | with_reducible refine Since.later ?_ (by with_reducible assumption) | with_reducible refine Since.only ?_ (by with_reducible assumption) (by first | assumption | omega | (simp; done) | (simp; omega)) | with_reducible refine Since.alloc ?_ _ | with_reducible refine Since.drewN ?_ _ | with_reducible refine Since.drew ?_ | with_reducible refine Since.set ?_ (by first | assumption | omega | (simp; done) | (simp; omega)) _)), ?_⟩
  · have := HI.out.mp.lt; simp only; omega
  · intro k hk
    have h3 := hs2.le
    simp [MvB.S, Value.ownBlock] at hk
    omega
end Go.Proofs.Ythnolkbolmbkdaa
