/- Contracts of ids.Issue and ids.Live: what each answers, and what becomes of the blocks. Condition: the blocks hold IDs as New and the calls leave them. -/
import Derived.Test.YthnolkbolmbkdaaIdsProg
import Derived.Deep.RegionLaw
namespace Go.Proofs.Ythnolkbolmbkdaa
open Go.ChangeShapes Go.WideShapes Go.ChangeAt Go.RowKit
set_option linter.unusedVariables false

def issE (lim : Int) (L : List One) (N : List Int) (x : Int) : Int := if MayBe x then (if x ∈ N then 7 else if (L.length : Int) = lim ∨ N.length = 100 then 4 else 0) else 1
def issL (lim : Int) (L : List One) (N : List Int) (x : Int) : List One := if issE lim L N x = 0 then L ++ [⟨N.length, x⟩] else L
def issN (lim : Int) (L : List One) (N : List Int) (x : Int) : List Int := if issE lim L N x = 0 then N ++ [x] else N
def issD (lim : Int) (L : List One) (N : List Int) (x : Int) : One := if issE lim L N x = 0 then ⟨N.length, x⟩ else ⟨0, 0⟩
theorem iss_bad {lim : Int} {L : List One} {N : List Int} {x : Int} (h : issE lim L N x ≠ 0) : issL lim L N x = L ∧ issN lim L N x = N ∧ issD lim L N x = ⟨0, 0⟩ := by
  unfold issL issN issD
  rw [if_neg h, if_neg h, if_neg h]
  exact ⟨rfl, rfl, rfl⟩
theorem iss_ok {lim : Int} {L : List One} {N : List Int} {x : Int} (h : issE lim L N x = 0) : issL lim L N x = L ++ [⟨N.length, x⟩] ∧ issN lim L N x = N ++ [x] ∧ issD lim L N x = ⟨N.length, x⟩ := by
  unfold issL issN issD
  rw [if_pos h, if_pos h, if_pos h]
  exact ⟨rfl, rfl, rfl⟩
theorem nameF_put {N : List Int} {x : Int} : putI (nameF N) x (.bool true) = nameF (N ++ [x]) := by
  funext j
  unfold putI nameF
  by_cases h : j = x
  · rw [if_pos h, if_pos (by simp [h])]
  · rw [if_neg h]
    by_cases h2 : j ∈ N
    · rw [if_pos h2, if_pos (by simp [h2])]
    · rw [if_neg h2, if_neg (by simp [h, h2])]

theorem ilive (g b : Nat) (v : Value) (lim : Int) (L : List One) (N : List Int) (w : World) (h : Iz w g b v lim L N) :
    Calls Try.prog 23 #[.pointer (some ⟨g, 0, none⟩)] w fun e w' => ∃ A cap, e = .returned (.slice A L.length cap) ∧ Lst w' 51 2 (.slice A L.length cap) (L.map idRow) ∧ Below w.heap.size w w' ∧ ∀ k, k ∈ blocks (.slice A 0 0) → w.heap.size ≤ k := by
  have c1 : w.cell? ⟨g, 1, none⟩ = some v := h.bl.cell 1
  have hm : L.length ≤ 1000000 := by have := h.few; have := h.l2; omega
  have HLS := Lib.hid h.ls
  clear h
  go_enter Try.func23, Try.ntmps23
  go_wp2_with (go_at_call 33; refine (cloneIDs v L _ HLS.out hm).mono ?_; rintro e w1 ⟨A, cap, rfl, hl1, hb1, hk1⟩)
  go_ret
  exact ⟨A, cap, rfl, hl1, hb1, hk1⟩

set_option maxHeartbeats 3200000 in
theorem iissue (g b : Nat) (v : Value) (lim : Int) (L : List One) (N : List Int) (x : Int) (w : World) (h : Iz w g b v lim L N) :
    Calls Try.prog 15 #[.pointer (some ⟨g, 0, none⟩), .int .i64 x] w fun e w' => e = .returned (.tuple #[oneV (issD lim L N x), errV (issE lim L N x)]) ∧ ILeft w w' g b v lim (issL lim L N x) (issN lim L N x) := by
  have lg := h.bl.lt
  have c0 : w.cell? ⟨g, 0, none⟩ = some (.int .i64 lim) := h.bl.cell 0
  have c1 : w.cell? ⟨g, 1, none⟩ = some v := h.bl.cell 1
  have c2 : w.cell? ⟨g, 2, none⟩ = some (.map (some b)) := h.bl.cell 2
  by_cases hm : MayBe x
  case neg =>
    have E : Hid (issE lim L N x = 1) := Lib.hid (by unfold issE; rw [if_neg hm])
    have HB := Lib.hid (iss_bad (L := L) (N := N) (lim := lim) (x := x) (by rw [E.out]; decide))
    have H := Lib.hid h
    clear h
    go_enter Try.func15, Try.ntmps15
    go_wp2_with (go_at_call 29; refine (may_no x hm _).mono ?_; rintro e w' ⟨rfl, rfl⟩)
    refine bodyPost_ret (v := .tuple #[oneV ⟨0, 0⟩, errV 1]) (by simp [results, Try.results15, go_sem]; rfl) rfl ⟨by rw [HB.out.2.2, E.out], ?_⟩
    rw [HB.out.1, HB.out.2.1]
    exact ⟨v, H.out.later (by refine Since.out ?_; repeat (first | with_reducible assumption | with_reducible exact Since.refl _ | with_reducible refine Since.later ?_ (by with_reducible assumption) | with_reducible refine Since.only ?_ (by with_reducible assumption) (by first | assumption | omega | (simp; done) | (simp; omega)) | with_reducible refine Since.alloc ?_ _ | with_reducible refine Since.drewN ?_ _ | with_reducible refine Since.drew ?_ | with_reducible refine Since.set ?_ (by first | assumption | omega | (simp; done) | (simp; omega)) _)), Out.of_below (by refine Since.out ?_; repeat (first | with_reducible assumption | with_reducible exact Since.refl _ | with_reducible refine Since.later ?_ (by with_reducible assumption) | with_reducible refine Since.only ?_ (by with_reducible assumption) (by first | assumption | omega | (simp; done) | (simp; omega)) | with_reducible refine Since.alloc ?_ _ | with_reducible refine Since.drewN ?_ _ | with_reducible refine Since.drew ?_ | with_reducible refine Since.set ?_ (by first | assumption | omega | (simp; done) | (simp; omega)) _)) _, fun k hk => Or.inl hk⟩
  have x0 := hm.1
  have x1 := hm.2
  have hwf : (Lit.int .i64 x).wf = true := WalkArith.wf_i64 (by omega)
  by_cases hmem : x ∈ N
  · have E : Hid (issE lim L N x = 7) := Lib.hid (by unfold issE; rw [if_pos hm, if_pos hmem])
    have HB := Lib.hid (iss_bad (L := L) (N := N) (lim := lim) (x := x) (by rw [E.out]; decide))
    have hlook : ∀ o, (Instr.lookup 65 (.map (some b)) (.int .i64 x) false).run Try.prog (w.alloc o) = .ok (.bool true) (w.alloc o) := fun o => (h.mp.alloc o).look1 Try.underlying3 Try.nameMap (Try.nameZero _) hwf (r := some (.bool true)) (by unfold nameF; rw [if_pos hmem])
    have H := Lib.hid h
    clear h hm hmem hwf
    go_enter Try.func15, Try.ntmps15
    go_wp2_with (go_at_call 29; refine (may_yes x x0 x1 _).mono ?_; rintro e w' ⟨rfl, rfl⟩)
    refine bodyPost_ret (v := .tuple #[oneV ⟨0, 0⟩, errV 7]) (by simp [results, Try.results15, go_sem]; rfl) rfl ⟨by rw [HB.out.2.2, E.out], ?_⟩
    rw [HB.out.1, HB.out.2.1]
    exact ⟨v, H.out.later (by refine Since.out ?_; repeat (first | with_reducible assumption | with_reducible exact Since.refl _ | with_reducible refine Since.later ?_ (by with_reducible assumption) | with_reducible refine Since.only ?_ (by with_reducible assumption) (by first | assumption | omega | (simp; done) | (simp; omega)) | with_reducible refine Since.alloc ?_ _ | with_reducible refine Since.drewN ?_ _ | with_reducible refine Since.drew ?_ | with_reducible refine Since.set ?_ (by first | assumption | omega | (simp; done) | (simp; omega)) _)), Out.of_below (by refine Since.out ?_; repeat (first | with_reducible assumption | with_reducible exact Since.refl _ | with_reducible refine Since.later ?_ (by with_reducible assumption) | with_reducible refine Since.only ?_ (by with_reducible assumption) (by first | assumption | omega | (simp; done) | (simp; omega)) | with_reducible refine Since.alloc ?_ _ | with_reducible refine Since.drewN ?_ _ | with_reducible refine Since.drew ?_ | with_reducible refine Since.set ?_ (by first | assumption | omega | (simp; done) | (simp; omega)) _)) _, fun k hk => Or.inl hk⟩
  have hlook : ∀ o, (Instr.lookup 65 (.map (some b)) (.int .i64 x) false).run Try.prog (w.alloc o) = .ok (.bool false) (w.alloc o) := fun o => (h.mp.alloc o).look1 Try.underlying3 Try.nameMap (Try.nameZero _) hwf (r := none) (by unfold nameF; rw [if_neg hmem])
  have hlen : ∀ o n ty, (Builtin.len_ #[65] ty #[.map (some b)]).run Try.prog ((w.alloc o).drewN n) = .ok (.int .i64 N.length) ((w.alloc o).drewN n) := fun o n ty => ((h.mp.alloc o).drewN n).len Try.nameMap ty
  have hlenD : ∀ o ty, (Builtin.len_ #[65] ty #[.map (some b)]).run Try.prog (w.alloc o).drew = .ok (.int .i64 N.length) (w.alloc o).drew := fun o ty => (h.mp.alloc o).drew.len Try.nameMap ty
  obtain ⟨A, cap, hve, hcap, hmx, hA⟩ := h.ls.shape
  rw [List.length_map] at hve hcap
  have hfew := h.few
  have hl2 := h.l2
  have hmost := h.most
  subst hve
  by_cases hfull : (L.length : Int) = lim
  · have E : Hid (issE lim L N x = 4) := Lib.hid (by unfold issE; rw [if_pos hm, if_neg hmem, if_pos (Or.inl hfull)])
    have HB := Lib.hid (iss_bad (L := L) (N := N) (lim := lim) (x := x) (by rw [E.out]; decide))
    have hf' : ((L.length : Int) == lim) = true := by simpa using hfull
    have H := Lib.hid h
    clear h hm hmem hwf hfull hA
    go_enter Try.func15, Try.ntmps15
    go_wp2_with (go_at_call 29; refine (may_yes x x0 x1 _).mono ?_; rintro e w' ⟨rfl, rfl⟩)
    go_quiet (fail)
    go_wp2
    refine bodyPost_ret (v := .tuple #[oneV ⟨0, 0⟩, errV 4]) (by simp [results, Try.results15, go_sem]; rfl) rfl ⟨by rw [HB.out.2.2, E.out], ?_⟩
    rw [HB.out.1, HB.out.2.1]
    exact ⟨_, H.out.later (by refine Since.out ?_; repeat (first | with_reducible assumption | with_reducible exact Since.refl _ | with_reducible refine Since.later ?_ (by with_reducible assumption) | with_reducible refine Since.only ?_ (by with_reducible assumption) (by first | assumption | omega | (simp; done) | (simp; omega)) | with_reducible refine Since.alloc ?_ _ | with_reducible refine Since.drewN ?_ _ | with_reducible refine Since.drew ?_ | with_reducible refine Since.set ?_ (by first | assumption | omega | (simp; done) | (simp; omega)) _)), Out.of_below (by refine Since.out ?_; repeat (first | with_reducible assumption | with_reducible exact Since.refl _ | with_reducible refine Since.later ?_ (by with_reducible assumption) | with_reducible refine Since.only ?_ (by with_reducible assumption) (by first | assumption | omega | (simp; done) | (simp; omega)) | with_reducible refine Since.alloc ?_ _ | with_reducible refine Since.drewN ?_ _ | with_reducible refine Since.drew ?_ | with_reducible refine Since.set ?_ (by first | assumption | omega | (simp; done) | (simp; omega)) _)) _, fun k hk => Or.inl hk⟩
  have hf' : ((L.length : Int) == lim) = false := by simpa using hfull
  by_cases h100 : N.length = 100
  · have E : Hid (issE lim L N x = 4) := Lib.hid (by unfold issE; rw [if_pos hm, if_neg hmem, if_pos (Or.inr h100)])
    have HB := Lib.hid (iss_bad (L := L) (N := N) (lim := lim) (x := x) (by rw [E.out]; decide))
    have h100' : ((N.length : Int) == 100) = true := by simp; omega
    have H := Lib.hid h
    clear h hm hmem hwf hfull hA h100
    go_enter Try.func15, Try.ntmps15
    go_wp2_with (go_at_call 29; refine (may_yes x x0 x1 _).mono ?_; rintro e w' ⟨rfl, rfl⟩)
    go_quiet (fail)
    go_wp2
    refine bodyPost_ret (v := .tuple #[oneV ⟨0, 0⟩, errV 4]) (by simp [results, Try.results15, go_sem]; rfl) rfl ⟨by rw [HB.out.2.2, E.out], ?_⟩
    rw [HB.out.1, HB.out.2.1]
    exact ⟨_, H.out.later (by refine Since.out ?_; repeat (first | with_reducible assumption | with_reducible exact Since.refl _ | with_reducible refine Since.later ?_ (by with_reducible assumption) | with_reducible refine Since.only ?_ (by with_reducible assumption) (by first | assumption | omega | (simp; done) | (simp; omega)) | with_reducible refine Since.alloc ?_ _ | with_reducible refine Since.drewN ?_ _ | with_reducible refine Since.drew ?_ | with_reducible refine Since.set ?_ (by first | assumption | omega | (simp; done) | (simp; omega)) _)), Out.of_below (by refine Since.out ?_; repeat (first | with_reducible assumption | with_reducible exact Since.refl _ | with_reducible refine Since.later ?_ (by with_reducible assumption) | with_reducible refine Since.only ?_ (by with_reducible assumption) (by first | assumption | omega | (simp; done) | (simp; omega)) | with_reducible refine Since.alloc ?_ _ | with_reducible refine Since.drewN ?_ _ | with_reducible refine Since.drew ?_ | with_reducible refine Since.set ?_ (by first | assumption | omega | (simp; done) | (simp; omega)) _)) _, fun k hk => Or.inl hk⟩
  have E : Hid (issE lim L N x = 0) := Lib.hid (by unfold issE; rw [if_pos hm, if_neg hmem, if_neg (by rintro (h | h); exact hfull h; exact h100 h)])
  have HB := Lib.hid (iss_ok E.out)
  have HN : Hid ((nameF N x).isSome = false) := Lib.hid (by unfold nameF; rw [if_neg hmem]; rfl)
  have h100' : ((N.length : Int) == 100) = false := by simp; omega
  have H := Lib.hid h
  have HW := Lib.hid hwf
  clear h hm hmem hwf hfull hA h100
  go_enter Try.func15, Try.ntmps15
  go_wp2_with (go_at_call 29; refine (may_yes x x0 x1 _).mono ?_; rintro e w' ⟨rfl, rfl⟩)
  go_quiet (fail)
  go_wp2_with (at_mapUpdate; refine wpList_store_I _ rfl _ _ _ 65 rfl 3 4 Try.underlying3 Try.nameMap b N.length (nameF N) rfl (((H.out.mp.alloc _).drewN _).alloc _) (by unfold maxLen; omega) x (.bool true) rfl rfl HW.out ?_; intro w2 hm2 ht2)
  have hlb := H.out.mp.lt
  have ho2 := Out.of_only (turned_only ht2)
  have hgb : g ∉ [b] := by simpa using H.out.mp.not_row H.out.bl
  have hB6 : BlockIs w2 (w.heap.size + 1) 51 #[.int .i64 N.length, .int .i64 x] := ho2.block' (BlockIs.fresh_at (by simp)) (by simp; omega)
  have hB4 : BlockIs w2 w.heap.size 51 #[.int .i64 0, .int .i64 0] := ho2.block' (((BlockIs.fresh w _ _).drewN _).alloc _) (by simp; omega)
  have hbl2 : BlockIs w2 g 67 #[.int .i64 lim, .slice A L.length cap, .map (some b)] := ho2.block' (((H.out.bl.alloc _).drewN _).alloc _) hgb
  have hls2 : Lst w2 51 2 (.slice A L.length cap) (L.map idRow) := (((H.out.ls.alloc _).drewN _).alloc _).kept ho2 (fun k hk hm => by rw [List.mem_singleton.1 hm] at hk; exact H.out.ls.not_map H.out.mp hk)
  have hO2 : Out w w2 (g :: b :: blocks (.slice A L.length cap)) := ((((Out.refl w _).alloc _).drewN _).alloc _).then' ho2 (by simp)
  have hml : (L.map idRow).length = L.length := List.length_map ..
  have hS : w2.cell? ⟨g, 1, none⟩ = some (.slice A L.length cap) ∧ w2.cell? ⟨w.heap.size + 1, 0, none⟩ = some (.int .i64 N.length) ∧ w2.cell? ⟨w.heap.size + 1, 1, none⟩ = some (.int .i64 x) := ⟨hbl2.cell 1, hB6.cell 0, hB6.cell 1⟩
  rw [HN.out, nameF_put] at hm2
  have l4 := hB4.lt
  have l6 := hB6.lt
  have lg2 := hbl2.lt
  have HML := Lib.hid hml
  have HS := Lib.hid hS
  have HB6 := Lib.hid hB6
  have HB4 := Lib.hid hB4
  have HBL2 := Lib.hid hbl2
  have HLS2 := Lib.hid hls2
  have HM2 := Lib.hid hm2
  have hap : g ∉ blocks (.slice A L.length cap) := H.out.apart
  have h4a : w.heap.size ∉ blocks (.slice A L.length cap) := fun hk => by have := H.out.ls.lt _ hk; omega
  have h6a : (w.heap.size + 1) ∉ blocks (.slice A L.length cap) := fun hk => by have := H.out.ls.lt _ hk; omega
  have hba : b ∉ blocks (.slice A L.length cap) := H.out.ls.not_map H.out.mp
  have HAP := Lib.hid hap
  have H4A := Lib.hid h4a
  have H6A := Lib.hid h6a
  have HBA := Lib.hid hba
  clear hlook hlen hlenD c0 c1 c2 hm2 hls2 hbl2 hB4 hB6 hS hml hap h4a h6a hba ho2
  obtain ⟨d1, d6, d7⟩ := HS.out
  go_region_law ((refine step_push rfl _ _ 61 rfl 51 2 16 Try.elID (.slice A L.length cap) (L.map idRow) rfl ?_ w2.heap.size 1 [.int .i64 N.length, .int .i64 x] rfl rfl (idRow_one ⟨N.length, x⟩).2 ?_ ?_ ?_; (first | exact (HLS2.out.alloc _).drew | exact HLS2.out.alloc _); (exact BlockIs.fresh w2 _ _); (rw [HML.out]; omega); intro q cap' w3 hl3 ho3 hq3 hlt3; have hb3 : BlockIs w3 g 67 #[.int .i64 lim, .slice A L.length cap, .map (some b)] := ho3.block' (HBL2.out.alloc _) HAP.out; have h63 : BlockIs w3 (w.heap.size + 1) 51 #[.int .i64 N.length, .int .i64 x] := ho3.block' (HB6.out.alloc _) H6A.out; have HS3 := Lib.hid (show w3.cell? ⟨g, 1, none⟩ = some (.slice A L.length cap) ∧ w3.cell? ⟨w.heap.size + 1, 0, none⟩ = some (.int .i64 N.length) ∧ w3.cell? ⟨w.heap.size + 1, 1, none⟩ = some (.int .i64 x) from ⟨hb3.cell 1, h63.cell 0, h63.cell 1⟩); have h43 : BlockIs w3 w.heap.size 51 #[.int .i64 0, .int .i64 0] := ho3.block' (HB4.out.alloc _) H4A.out; have f3 := hb3.free; have e31 : w3.cell? ⟨g, 1, none⟩ = some (.slice A L.length cap) := hb3.cell 1))
  all_goals
    have e60 : w3.cell? ⟨w.heap.size + 1, 0, none⟩ = some (.int .i64 N.length) := h63.cell 0
    have e61 : w3.cell? ⟨w.heap.size + 1, 1, none⟩ = some (.int .i64 x) := h63.cell 1
    have e40 : w3.cell? ⟨w.heap.size, 0, none⟩ = some (.int .i64 0) := h43.cell 0
    have e41 : w3.cell? ⟨w.heap.size, 1, none⟩ = some (.int .i64 0) := h43.cell 1
    have f4 := h43.free
    have hne1 : g ≠ w.heap.size := by omega
    have hne2 : g ≠ w.heap.size + 1 := by omega
    have hO3 : Out w2 w3 (blocks (.slice A L.length cap)) := by
      first
        | exact ((Out.refl w2 _).alloc _).trans ho3
        | exact (((Out.refl w2 _).alloc _).drew).trans ho3
    have hqg : q ≠ g := fun e => by have := hl3.apart hb3 (by decide); rw [e] at this; simp [Value.ownBlock] at this
    have hq4 : q ≠ w.heap.size := fun e => by
      rcases hq3 with h1 | h1
      · have := H.out.ls.lt _ h1; omega
      · have := hO2.le; simp at h1; omega
    rw [HML.out] at hl3
    have q1 : ¬ (L.length : Int) = lim := by simpa using hf'
    have q2 : ¬ (N.length : Int) = 100 := by simpa using h100'
    have Q1 := Lib.hid q1
    have Q2 := Lib.hid q2
    clear d1 d6 d7 e31 q1 q2
    go_wp2
    refine bodyPost_ret (v := .tuple #[oneV ⟨N.length, x⟩, errV 0]) (by simp [results, Try.results15, go_sem, e40, e41]; rfl) rfl ⟨by rw [HB.out.2.2, E.out], ?_⟩
    rw [HB.out.1, HB.out.2.1]
    have hOf : ∀ a b c, Out w3 (((w3.setCell ⟨g, 1, none⟩ a).setCell ⟨w.heap.size, 0, none⟩ b).setCell ⟨w.heap.size, 1, none⟩ c) [g, w.heap.size] := fun a b c => (((Out.refl w3 _).put (p := ⟨g, 1, none⟩) (Or.inl (by simp)) a).put (p := ⟨w.heap.size, 0, none⟩) (Or.inl (by simp)) b).put (p := ⟨w.heap.size, 1, none⟩) (Or.inl (by simp)) c
    refine ⟨.slice (some ⟨q, 0, none⟩) (L.length + 1) cap', ⟨((hb3.put 1 _).far hne1 _).far hne1 _, ?_, ?_, H.out.l1, H.out.l2, ?_, ?_⟩, ?_, ?_⟩
    · rw [List.map_append]
      exact hl3.kept (hOf _ _ _) (fun k hk hm => by
        have hkq : q = k := by simpa [Value.ownBlock] using hk
        simp only [List.mem_cons, List.not_mem_nil, or_false] at hm
        rcases hm with h1 | h1
        · exact hqg (hkq.trans h1)
        · exact hq4 (hkq.trans h1))
    · rw [List.length_append]
      refine MapI.kept' (w := w3) (S := [g, w.heap.size]) ?_ (hOf _ _ _) ?_
      · exact HM2.out.kept' hO3 HBA.out
      · simp only [List.mem_cons, List.not_mem_nil, or_false]
        rintro (h1 | h1)
        · exact hgb (by rw [h1]; simp)
        · omega
    · rw [List.length_append]
      have q1 := Q1.out
      have q2 := Q2.out
      simp
      omega
    · rw [List.length_append]
      have q1 := Q1.out
      have q2 := Q2.out
      simp
      omega
    · exact (hO2.then' hO3 (fun k hk => Or.inl (by simp [hk]))).then' (hOf _ _ _) (fun k hk => by
        simp only [List.mem_cons, List.not_mem_nil, or_false] at hk
        rcases hk with rfl | rfl
        · exact Or.inl (by simp)
        · exact Or.inr (Nat.le_refl _))
    · intro k hk
      have hkq : q = k := by simpa [Value.ownBlock] using hk
      rcases hq3 with h1 | h1
      · exact Or.inl (hkq ▸ h1)
      · right
        have := hO2.le
        simp at h1
        omega
end Go.Proofs.Ythnolkbolmbkdaa
