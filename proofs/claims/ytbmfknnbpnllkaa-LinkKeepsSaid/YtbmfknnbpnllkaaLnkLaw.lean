/- A link beside a list of texts: what is sent, lost, doubled and given of it; the plain law, and the blocks that hold it. Condition: the slices are the call's own. -/
import Derived.Test.YtbmfknnbpnllkaaGive
import Derived.Test.YtbmfknnbpnllkaaIns
namespace Go.Proofs.Ytbmfknnbpnllkaa
open Go.ChangeShapes Go.WideShapes Go.ChangeAt Go.RowKit
set_option linter.unusedVariables false

def strRow (s : ByteArray) : List Value := [.string s]
theorem strRow_one (s : ByteArray) : (strRow s).length = 1 ∧ ∀ u ∈ strRow s, u.oneCell' = true := ⟨rfl, by intro u hu; simp [strRow] at hu; rw [hu]; rfl⟩
theorem Try.elStr : Elem Try.prog 35 9 1 16 := ⟨Try.underlying35, ⟨.string ⟨#[]⟩, rfl, by kernel_rfl⟩, by decide, by decide⟩
theorem lst_apart {w : World} {E E' s s' : Nat} {v v' : Value} {es es' : List (List Value)} (h : Lst w E s v es) (h' : Lst w E' s' v' es') (hne : E ≠ E') : ∀ k, k ∈ blocks v → k ∉ blocks v' := by
  intro k hk hk'
  rcases h.own.2 with ⟨rfl, _⟩ | ⟨g, cap, cur, rfl, _, hg, _⟩
  · simp [Value.ownBlock] at hk
  · rcases h'.own.2 with ⟨rfl, _⟩ | ⟨g', cap', cur', rfl, _, hg', _⟩
    · simp [Value.ownBlock] at hk'
    · have e1 : g = k := by simpa [Value.ownBlock] using hk
      have e2 : g' = k := by simpa [Value.ownBlock] using hk'
      subst e1 e2
      rw [hg] at hg'
      simp only [Option.some.injEq, Obj.cells.injEq] at hg'
      exact hne hg'.2.1
/-- a link and a slice of texts, in new blocks -/
structure Hold (w wr : World) (g : Nat) (v vs : Value) (L : List Let) (S : List ByteArray) : Prop where
  kz : Kz wr g v L
  ls : Lst wr 9 1 vs (S.map strRow)
  newK : ∀ k, k ∈ g :: blocks v → w.heap.size ≤ k
  newS : ∀ k, k ∈ blocks vs → w.heap.size ≤ k
  since : Since w wr
section
variable {w wr wx : World} {g : Nat} {v vs : Value} {L L' : List Let} {S : List ByteArray}
theorem Hold.later (h : Hold w wr g v vs L S) (hb : Below wr.heap.size wr wx) : Hold w wx g v vs L S := ⟨h.kz.later hb, h.ls.later hb, h.newK, h.newS, h.since.later hb⟩
theorem Hold.apart (h : Hold w wr g v vs L S) : ∀ k, k ∈ blocks vs → k ∉ g :: blocks v := by
  intro k hk hm
  rcases List.mem_cons.1 hm with rfl | hm
  · exact h.ls.apart h.kz.bl (by decide) hk
  · exact lst_apart h.ls h.kz.ls (by decide) k hk hm
theorem Hold.stepK (h : Hold w wr g v vs L S) (c : KLeft wr wx g v L') : ∃ v', Hold w wx g v' vs L' S := by
  obtain ⟨v', hz, ho, hk⟩ := c
  refine ⟨v', hz, h.ls.kept ho h.apart, fun k hm => ?_, h.newS, h.since.out' ho h.newK⟩
  rcases List.mem_cons.1 hm with rfl | hm
  · exact h.newK _ (by simp)
  · rcases hk k hm with h1 | h1
    · exact h.newK k (List.mem_cons_of_mem _ h1)
    · exact Nat.le_trans h.since.le h1
theorem Hold.push (h : Hold w wr g v vs L S) {s : ByteArray} {q n c : Nat} {o : Obj} (hl : Lst wx 9 1 (.slice (some ⟨q, 0, none⟩) n c) (S.map strRow ++ [strRow s])) (ho : Out (wr.alloc o) wx (blocks vs)) (hq : q ∈ blocks vs ∨ q = (wr.alloc o).heap.size) :
    Hold w wx g v (.slice (some ⟨q, 0, none⟩) n c) L (S ++ [s]) := by
  have hb : Below wr.heap.size wr (wr.alloc o) := (Below.refl _ _).alloc (Nat.le_refl _) o
  refine ⟨(h.kz.later hb).kept ho (fun k hk hm => h.apart k hm hk), by rw [List.map_append]; exact hl, h.newK, fun k hk => ?_, (h.since.alloc o).out' ho h.newS⟩
  have hkq : q = k := by simpa [Value.ownBlock] using hk
  rw [← hkq]
  rcases hq with h1 | h1
  · exact h.newS _ h1
  · have := h.since.le; simp at h1; omega
end
/-- what was sent holds what is on its way; and if nothing was changed, in order -/
structure Keep (S : List ByteArray) (L : List Let) (c : Bool) (at_ : Nat) : Prop where
  mem : ∀ d ∈ L, d.b ∈ S
  same : c = false → L.map Let.b = S.drop at_
theorem Keep.start {S : List ByteArray} {L : List Let} (h : L.map Let.b = S) : Keep S L false 0 := ⟨fun d hd => h ▸ List.mem_map_of_mem hd, fun _ => by rw [h]; rfl⟩
theorem Keep.lose {S : List ByteArray} {L : List Let} {c : Bool} {n : Nat} (h : Keep S L c n) (x : Int) : Keep S (giveL L x) (c || (giveE L x == 0)) n := by
  unfold giveL giveE
  by_cases hx : isB L x = true
  · rw [if_pos hx, if_pos hx]
    refine ⟨fun d hd => ?_, fun hc => by simp at hc⟩
    rcases List.mem_append.1 hd with hd | hd
    · exact h.mem d (List.mem_of_mem_take hd)
    · exact h.mem d (List.mem_of_mem_drop hd)
  · rw [if_neg hx, if_neg hx]
    exact ⟨h.mem, fun hc => h.same (by simpa using hc)⟩
theorem Keep.twice {S : List ByteArray} {L : List Let} {c : Bool} {n : Nat} (h : Keep S L c n) (x : Int) : Keep S (twiceL L x) (c || (twiceE L x == 0)) n := by
  unfold twiceL
  by_cases hx : twiceE L x = 0
  · rw [if_pos hx, hx]
    refine ⟨fun d hd => ?_, fun hc => by simp at hc⟩
    rcases List.mem_append.1 hd with hd | hd
    · exact h.mem d hd
    · rw [List.mem_singleton.1 hd]
      have hb : isB L x = true := by
        unfold twiceE at hx
        by_cases hb : isB L x = true
        · exact hb
        · rw [if_neg hb] at hx; cases hx
      obtain ⟨x0, x1⟩ := isB_iff.1 hb
      have hlt : x.toNat < L.length := by omega
      have : L.getD x.toNat noLet = L[x.toNat] := by simp [List.getD, List.getElem?_eq_getElem hlt]
      rw [this]
      exact h.mem _ (List.getElem_mem hlt)
  · rw [if_neg hx]
    exact ⟨h.mem, fun hc => h.same (by simp at hc; exact hc.1)⟩
theorem twice_len {L : List Let} (x : Int) (h : L.length ≤ 40) : (twiceL L x).length ≤ 40 := by
  unfold twiceL
  by_cases hx : twiceE L x = 0
  · rw [if_pos hx, List.length_append]
    unfold twiceE at hx
    by_cases hb : isB L x = true
    · rw [if_pos hb] at hx
      by_cases h4 : L.length = 40
      · rw [if_pos h4] at hx; cases hx
      · simp; omega
    · rw [if_neg hb] at hx; cases hx
  · rw [if_neg hx]; exact h
theorem give_len (L : List Let) (x : Int) : (giveL L x).length ≤ L.length := by
  unfold giveL
  split
  · rw [List.length_append, List.length_take, List.length_drop]; omega
  · exact Nat.le_refl _
/-- the first one is given -/
theorem give_first (d : Let) (r : List Let) : giveE (d :: r) 0 = 0 ∧ giveD (d :: r) 0 = d ∧ giveL (d :: r) 0 = r := by
  have hb : isB (d :: r) 0 = true := isB_iff.2 (by simp)
  unfold giveE giveD giveL
  rw [if_pos hb, if_pos hb, if_pos hb]
  exact ⟨rfl, rfl, by simp⟩
theorem Keep.give {S : List ByteArray} {d : Let} {r : List Let} {c : Bool} {n : Nat} (h : Keep S (d :: r) c n) : Keep S r c (n + 1) ∧ (c = false → n < S.length ∧ sth S n = d.b) := by
  refine ⟨⟨fun e he => h.mem e (List.mem_cons_of_mem _ he), fun hc => ?_⟩, fun hc => ?_⟩
  · have := h.same hc
    rw [List.map_cons] at this
    rw [← List.drop_drop, ← this]
    simp
  · have := h.same hc
    rw [List.map_cons] at this
    have hn : n < S.length := by
      rcases Nat.lt_or_ge n S.length with h1 | h1
      · exact h1
      · rw [List.drop_eq_nil_of_le h1] at this; cases this
    refine ⟨hn, ?_⟩
    rw [List.drop_eq_getElem_cons hn] at this
    unfold sth
    simp only [List.getD, List.getElem?_eq_getElem hn, Option.getD_some]
    exact (List.cons.inj this).1.symm
/-- is there such a text among the first so many -/
def wasB (S : List ByteArray) (b : ByteArray) : Nat → Bool
  | 0 => false
  | n + 1 => wasB S b n || (sth S n).toList == b.toList
theorem wasB_mem {S : List ByteArray} {b : ByteArray} (h : b ∈ S) : wasB S b S.length = true := by
  obtain ⟨i, hi, rfl⟩ := List.getElem_of_mem h
  have hm : ∀ n, i < n → wasB S S[i] n = true := by
    intro n
    induction n with
    | zero => intro h; omega
    | succ n ih =>
      intro hn
      unfold wasB
      by_cases he : i = n
      · subst he
        have : sth S i = S[i] := by unfold sth; simp [List.getD, List.getElem?_eq_getElem hi]
        rw [this]
        simp
      · rw [ih (by omega)]; rfl
  exact hm _ hi
end Go.Proofs.Ytbmfknnbpnllkaa
