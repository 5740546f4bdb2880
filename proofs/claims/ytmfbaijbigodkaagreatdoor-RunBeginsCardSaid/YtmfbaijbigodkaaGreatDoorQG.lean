/- Contracts and plain laws that the claim leans on, part 7 of 8: each part has its own word. No condition beside theirs. -/
import Derived.Test.YtmfbaijbigodkaaGreatDoorBase
import Derived.Test.YtmfbaijbigodkaaGreatDoorOnly
import Derived.Test.YtmfbaijbigodkaaGreatDoorMay
import Derived.Test.YtmfbaijbigodkaaGreatDoorCredit
import Derived.Test.YtmfbaijbigodkaaGreatDoorQF
import Derived.Deep.RegionLaw
import Derived.RangeFuncOwn
import Derived.RangeFuncBox
import Derived.RangeFuncCalls
import Derived.RangeFuncNested
import Derived.RangeFuncLeaves
import Derived.Shelf.Abstract
import Derived.Shelf.RegionOpen
import Derived.WalkKit
import Derived.OwnWalkIn
import Derived.TacticsInMore
import Derived.LoopNIn
import Derived.LoopIn
import Derived.BigCall
/-! desk.do at every command, and desk.line, by contracts: a line's words are read as a command, and the command is done. Condition: the tables hold what the program's text lays; each end made no more than 1000 packets; the line is short. -/
namespace Go.Proofs.YtmfbaijbigodkaaGreatDoor
open Go.ChangeShapes Go.WideShapes Go.ChangeAt Go.RowKit Go.Shelf
set_option linter.unusedVariables false

theorem nums_max : ∀ {L : List (List UInt8)} {ns : List Nat}, nums L = some ns → ∀ n ∈ ns, n ≤ 9999
  | [], ns, h => by
    cases h
    intro n hn
    simp at hn
  | x :: r, ns, h => by
    rw [nums] at h
    split at h
    · cases h
    · rename_i _ m hm
      split at h
      · cases h
      · rename_i _ ms hr
        cases h
        intro n hn
        rcases List.mem_cons.1 hn with rfl | hn
        · exact (dg_yes hm).2.2.2.2
        · exact nums_max hr n hn
theorem many_cases {x : List UInt8} {m : Nat} (h : manyOf x = some m) : (m = 1 ∧ (x = wWrite ∨ x = wSend ∨ x = wCome ∨ x = wLose ∨ x = wTwice ∨ x = wVarint)) ∨ (m = 2 ∧ (x = wRead ∨ x = wNeed)) ∨ (m = 0 ∧ x = wCount) := by
  unfold manyOf at h
  split at h
  · rename_i h1; exact Or.inl ⟨(Option.some.inj h).symm, h1⟩
  · split at h
    · rename_i h1; exact Or.inr (Or.inl ⟨(Option.some.inj h).symm, h1⟩)
    · split at h
      · rename_i h1; exact Or.inr (Or.inr ⟨(Option.some.inj h).symm, h1⟩)
      · cases h
theorem size_of (d : List UInt8) : (⟨d.toArray⟩ : ByteArray).size = d.length := by show d.toArray.size = _; simp
/-- desk.do -/
theorem pdo (w0 : World) (T : RTabs w0) (R : Thing) (g : Nat) (s : TkS) (hf : Few s 1000) (x : List UInt8) (ns : List Nat) (d : List UInt8) (hx : manyOf x = some ns.length) (hn : ∀ n ∈ ns, n ≤ 9999) (hd : d.length ≤ 1000000) (A : Option Addr) (c : Nat) (w : World) (ho : Own w0 [] w [talkT g s, R, Thing.lst 3 1 (.slice A ns.length c) (ns.map fun (n : Nat) => intRow n)]) :
    Calls Tryz.prog 144 #[.agg #[.pointer (some ⟨g, 0, none⟩)], .string ⟨x.toArray⟩, .slice A ns.length c, .string ⟨d.toArray⟩] w fun e w' => e = .returned (.tuple #[.string (doW s x ns d).1, errV (doW s x ns d).2.1]) ∧ Own w0 [] w' [talkT g (doW s x ns d).2.2, R] := by
  have hl := ho.ls 2 rfl
  obtain ⟨A2, c2, he, _, _, hA⟩ := hl.shape
  rw [List.length_map] at he
  injection he with e1 _ e3
  subst e1 e3
  rcases many_cases hx with ⟨hm, h1⟩ | ⟨hm, h1⟩ | ⟨hm, h1⟩
  · obtain ⟨n0, rfl⟩ := List.length_eq_one_iff.1 hm
    rcases hA with ⟨-, h, -⟩ | ⟨q, rfl⟩
    · cases h
    have hn0 := hn n0 (by simp)
    rcases h1 with rfl | rfl | rfl | rfl | rfl | rfl
    · exact pdo_write w0 T R g s q c n0 ⟨d.toArray⟩ (by rw [size_of]; exact hd) w ho
    · exact pdo_send w0 T R g s q c n0 ⟨d.toArray⟩ hf w ho
    · exact pdo_come w0 T R g s q c n0 ⟨d.toArray⟩ hf w ho
    · exact pdo_lose w0 T R g s q c n0 ⟨d.toArray⟩ w ho
    · exact pdo_twice w0 T R g s q c n0 ⟨d.toArray⟩ w ho
    · exact pdo_varint w0 T R g s q c n0 (by omega) (by omega) ⟨d.toArray⟩ w ho
  · obtain ⟨n0, n1, rfl⟩ : ∃ a b, ns = [a, b] := by
      match ns, hm with
      | [a, b], _ => exact ⟨a, b, rfl⟩
    rcases hA with ⟨-, h, -⟩ | ⟨q, rfl⟩
    · cases h
    have hn0 := hn n0 (by simp)
    rcases h1 with rfl | rfl
    · exact pdo_read w0 T R g s q c n0 n1 ⟨d.toArray⟩ w ho
    · exact pdo_need w0 T R g s q c n0 n1 (by omega) (by omega) ⟨d.toArray⟩ w ho
  · obtain rfl := List.length_eq_zero_iff.1 hm
    subst h1
    exact pdo_count w0 T R g s _ ⟨d.toArray⟩ w (ho.take 2)
/-- the error of a line that cannot be read -/
def badV : Value := .iface 175 (.agg #[.iface 84 (.int .i64 2)])
noncomputable def lineV (s : TkS) (ws : List (List UInt8)) : Value := match parse ws with
  | none => .tuple #[.string ⟨#[]⟩, badV]
  | some (x, n, d) => .tuple #[.string (doW s x n d).1, errV (doW s x n d).2.1]
noncomputable def lineS (s : TkS) (ws : List (List UInt8)) : TkS := match parse ws with
  | none => s
  | some (x, n, d) => (doW s x n d).2.2
theorem line_none {s : TkS} {ws : List (List UInt8)} (h : parse ws = none) : lineV s ws = .tuple #[.string ⟨#[]⟩, .iface 175 (.agg #[.iface 84 (.int .i64 2)])] ∧ lineS s ws = s := by
  unfold lineV lineS
  rw [h]
  exact ⟨rfl, rfl⟩
theorem line_some {s : TkS} {ws : List (List UInt8)} {x : List UInt8} {n : List Nat} {d : List UInt8} (h : parse ws = some (x, n, d)) : lineV s ws = .tuple #[.string (doW s x n d).1, errV (doW s x n d).2.1] ∧ lineS s ws = (doW s x n d).2.2 := by
  unfold lineV lineS
  rw [h]
  exact ⟨rfl, rfl⟩
theorem parse_other {x : List UInt8} {r : List (List UInt8)} (h : x ≠ wWrite) : parse (x :: r) = match manyOf x with
    | none => none
    | some m => match nums r with
      | none => none
      | some ns => if ns.length = m then some (x, ns, []) else none := by
  unfold parse
  exact if_neg h
theorem parse_write {r : List (List UInt8)} : parse (wWrite :: r) = match r with
    | [a, d] => if d = [] then none else match dgN a with
      | none => none
      | some n => some (wWrite, [n], d)
    | _ => none := by
  unfold parse
  exact if_pos rfl
/-- a word's bytes -/
theorem word_mk (X : ByteArray) : ∃ k : List UInt8, X = ⟨k.toArray⟩ := ⟨X.data.toList, by apply ByteArray.ext; simp⟩
theorem parse_snoc_nil {R : List (List UInt8)} : parse (wWrite :: (R ++ [[]])) = none := by
  rw [parse_write]
  match R with
  | [] => rfl
  | [a] => rfl
  | [a, b] => rfl
  | a :: b :: c :: t => rfl
theorem parse_snoc {R : List (List UInt8)} {d : List UInt8} (hd : d ≠ []) : parse (wWrite :: (R ++ [d])) = match nums R with
    | none => none
    | some ns => if ns.length = 1 then some (wWrite, ns, d) else none := by
  rw [parse_write]
  match R with
  | [] => rfl
  | [a] =>
    show (if d = [] then none else _) = _
    rw [if_neg hd, nums, nums]
    cases dgN a <;> rfl
  | a :: b :: t =>
    have e : (match a :: b :: t ++ [d] with
      | [a, d] => if d = [] then none else match dgN a with
        | none => none
        | some n => some (wWrite, [n], d)
      | _ => none) = none := by cases t <;> rfl
    rw [e]
    cases h : nums (a :: b :: t) with
    | none => rfl
    | some ns =>
      have := nums_len h
      simp only [List.length_cons] at this
      show none = if ns.length = 1 then _ else none
      rw [if_neg (by omega)]
theorem snoc_or {α : Type} (l : List α) : l = [] ∨ ∃ r x, l = r ++ [x] := by
  rcases List.eq_nil_or_concat l with h | ⟨a, b, h⟩
  · exact Or.inl h
  · exact Or.inr ⟨a, b, by rw [h, List.concat_eq_append]⟩
theorem words_cell {L : List ByteArray} {i : Nat} (h : i < L.length) : (L.map Value.string).toArray[i]? = some (.string (sth L i)) := by
  unfold sth
  simp [List.getD, List.getElem?_eq_getElem h]
set_option maxRecDepth 100000 in
set_option maxHeartbeats 3200000 in
theorem pline (w0 : World) (T : RTabs w0) (R : Thing) (g : Nat) (s : TkS) (hf : Few s 1000) (l : ByteArray) (hl : l.size ≤ 100000) (w : World) (ho : Own w0 [] w [talkT g s, R]) :
    Calls Tryz.prog 114 #[.agg #[.pointer (some ⟨g, 0, none⟩)], .string l] w fun e w' => e = .returned (lineV s (cutAt 32 l.data.toList)) ∧ Own w0 [] w' [talkT g (lineS s (cutAt 32 l.data.toList)), R] := by
  have HF := Lib.hid hf
  have HO := Lib.hid (ho.alloc 129 #[.pointer (some ⟨g, 0, none⟩)])
  obtain ⟨W1, hW1⟩ : ∃ W1, w.alloc (.cells #[.pointer (some ⟨g, 0, none⟩)] 129) = W1 := ⟨_, rfl⟩
  obtain ⟨gx, hgx⟩ : ∃ x, w.heap.size = x := ⟨_, rfl⟩
  rw [hW1, hgx] at HO
  obtain ⟨ws, hws⟩ : ∃ ws, cutAt 32 l.data.toList = ws := ⟨_, rfl⟩
  have HCE := Lib.hid (fun x (hx : x ∈ ws) => cutAt_each (c := 32) (l := l.data.toList) x (by rw [hws]; exact hx))
  have HCN : Hid (ws ≠ []) := Lib.hid (by rw [← hws]; exact cutAt_ne _ _)
  have HCL : Hid (ws.length ≤ l.size + 1) := Lib.hid (by
    rw [← hws]
    have := cutAt_few 32 l.data.toList
    have e : l.data.toList.length = l.size := by rw [Array.length_toList]; rfl
    omega)
  have HLS : Hid (l.data.toList.length = l.size) := Lib.hid (by rw [Array.length_toList]; rfl)
  have HSP := Lib.hid (fun W => split_one l 32 W (by omega))
  rw [hws] at HSP
  rw [hws]
  clear ho hf hws
  go_enter Tryz.func114, Tryz.ntmps114
  trace "A"; go_wp2_with fail
  (try rw [hW1]); (try rw [hgx])
  clear hW1 hgx
  refine (HSP.out _).mono ?_
  rintro e w1 ⟨L, hL, rfl, rfl⟩
  have hne : L ≠ [] := by rintro rfl; exact HCN.out hL.symm
  obtain ⟨x0, r0, rfl⟩ := List.exists_cons_of_ne_nil hne
  clear hne
  obtain ⟨k, rfl⟩ := word_mk x0
  have HLEN : Hid ((r0.map (·.data.toList)).length = r0.length) := Lib.hid (List.length_map _)
  obtain ⟨r, hr⟩ : ∃ r, r0.map (·.data.toList) = r := ⟨_, rfl⟩
  have hws : ws = k :: r := by
    rw [← hL, List.map_cons, hr]
  subst hws
  have HR := Lib.hid hr
  have HB : Hid (BlockIs (W1.alloc (.cells (((⟨k.toArray⟩ : ByteArray) :: r0).map Value.string).toArray 9)) W1.heap.size 9 (((⟨k.toArray⟩ : ByteArray) :: r0).map Value.string).toArray) := Lib.hid (BlockIs.fresh _ _ _)
  have HO1 := Lib.hid (HO.out.later ((Since.refl W1).alloc (.cells (((⟨k.toArray⟩ : ByteArray) :: r0).map Value.string).toArray 9)))
  obtain ⟨W2, hW2⟩ : ∃ W2, W1.alloc (.cells (((⟨k.toArray⟩ : ByteArray) :: r0).map Value.string).toArray 9) = W2 := ⟨_, rfl⟩
  obtain ⟨gw, hgw⟩ : ∃ x, W1.heap.size = x := ⟨_, rfl⟩
  rw [hW2, hgw] at HB
  rw [hW2] at HO1
  have hlen : (((⟨k.toArray⟩ : ByteArray) :: r0)).length = r0.length + 1 := rfl
  rw [hlen, hW2, hgw]
  clear hlen hW2 hgw hL hr
  have HN : Hid (r0.length + 1 ≤ l.size + 1) := Lib.hid (by have := HCL.out; rw [← HLEN.out, HR.out]; exact this)
  have hr9 : r0.length ≤ 100000 := by have := HN.out; omega
  trace "B"; go_wp2_with fail
  refine (pwants _).mono ?_
  rintro e w3 ⟨b, rfl, hM, hs3⟩
  have HM := Lib.hid hM
  have HO3 := Lib.hid (HO1.out.later hs3)
  have HB3 := Lib.hid (HB.out.later hs3)
  have HC3 : Hid (∀ W, Since w3 W → ∀ i, i < r0.length + 1 → W.cell? ⟨gw, i, none⟩ = some (.string (sth ((⟨k.toArray⟩ : ByteArray) :: r0) i))) := Lib.hid (fun W hW i hi => by
    rw [← words_cell (L := (⟨k.toArray⟩ : ByteArray) :: r0) hi]
    exact (HB3.out.later hW).cell i)
  have c0 : w3.cell? ⟨gw, 0, none⟩ = some (.string ⟨k.toArray⟩) := HC3.out _ (Since.refl _) 0 (by omega)
  have hkz : k.length ≤ maxLen := by
    have := (HCE.out k (by simp)).2
    have h2 := HLS.out
    unfold maxLen
    omega
  clear hM hs3
  cases hm : manyOf k with
  | none =>
    have HV := Lib.hid (line_none (s := s) (ws := k :: r) (by
      have hk : k ≠ wWrite := by rintro rfl; exact absurd hm (by decide)
      rw [parse_other hk, hm]))
    have hw : wantF k = none := by unfold wantF; rw [hm]; rfl
    have gu : w3.cell? ⟨1, 0, none⟩ = some (.iface 84 (.int .i64 2)) := HO3.out.since.cell (World.block_lt_of_cell? w0 _ T.u) T.u
    clear hm
    trace "C"; go_wp2_with (refine wpList_look_S _ rfl _ _ 209 rfl 9 3 Tryz.underlying9 Tryz.wantMap (z := .int .i64 0) (by kernel_rfl) b 9 wantF rfl HM.out k rfl hkz none hw ?_)
    trace "D"; go_quiet (fail)
    trace "E"; go_wp2_with fail
    go_ret2
    rw [HV.out.1, HV.out.2]
    exact ⟨rfl, (HO3.out.drewN _).take 2⟩
  | some m =>
    have hw : wantF k = some (.int .i64 m) := by unfold wantF; rw [hm]; rfl
    have HMM := Lib.hid hm
    clear hm
    by_cases hkw : k = wWrite
    case pos =>
      subst hkw
      obtain rfl : m = 1 := by
        have h := HMM.out
        have e : manyOf wWrite = some 1 := rfl
        rw [e] at h
        exact (Option.some.inj h).symm
      have hk2 : (wWrite == [119, 114, 105, 116, 101]) = true := rfl
      have hke : wWrite.isEmpty = false := rfl
      rcases snoc_or r0 with rfl | ⟨r1, t0, rfl⟩
      · have HV := Lib.hid (line_none (s := s) (ws := wWrite :: r) (by rw [← HR.out]; rfl))
        have gu : w3.cell? ⟨1, 0, none⟩ = some (.iface 84 (.int .i64 2)) := HO3.out.since.cell (World.block_lt_of_cell? w0 _ T.u) T.u
        have hz0 : ([] : List ByteArray).length = 0 := rfl
        rw [hz0] at hr9 HC3
        rw [hz0]
        trace "W"; go_wp2_with (refine wpList_look_S _ rfl _ _ 209 rfl 9 3 Tryz.underlying9 Tryz.wantMap (z := .int .i64 0) (by kernel_rfl) b 9 wantF rfl HM.out wWrite rfl hkz _ hw ?_)
        trace "W1"; go_quiet (fail)
        trace "W2"; go_wp2_with fail
        go_ret2
        rw [HV.out.1, HV.out.2]
        exact ⟨rfl, (HO3.out.drewN _).take 2⟩
      · obtain ⟨tt, rfl⟩ := word_mk t0
        have hla : (r1 ++ [(⟨tt.toArray⟩ : ByteArray)]).length = r1.length + 1 := by rw [List.length_append]; rfl
        have c9 : w3.cell? ⟨gw, r1.length + 1, none⟩ = some (.string ⟨tt.toArray⟩) := by
          have := HC3.out w3 (Since.refl _) (r1.length + 1) (by rw [hla]; omega)
          rw [this]
          unfold sth
          simp
        obtain ⟨RR, hR⟩ : ∃ RR, r1.map (·.data.toList) = RR := ⟨_, rfl⟩
        have hrr : r = RR ++ [tt] := by rw [← HR.out, List.map_append, hR]; rfl
        rw [hla] at hr9 HC3
        rw [hla]
        by_cases htt : tt = []
        · subst htt
          have HV := Lib.hid (line_none (s := s) (ws := wWrite :: r) (by rw [hrr]; exact parse_snoc_nil))
          have gu : w3.cell? ⟨1, 0, none⟩ = some (.iface 84 (.int .i64 2)) := HO3.out.since.cell (World.block_lt_of_cell? w0 _ T.u) T.u
          clear hrr hla hR
          trace "W"; go_wp2_with (refine wpList_look_S _ rfl _ _ 209 rfl 9 3 Tryz.underlying9 Tryz.wantMap (z := .int .i64 0) (by kernel_rfl) b 9 wantF rfl HM.out wWrite rfl hkz _ hw ?_)
          trace "W4"; go_quiet (fail)
          trace "W5"; go_wp2_with fail
          go_ret2
          rw [HV.out.1, HV.out.2]
          exact ⟨rfl, (HO3.out.drewN _).take 2⟩
        · have hte : tt.isEmpty = false := by
            cases tt with
            | nil => exact absurd rfl htt
            | cons _ _ => rfl
          have HPO := Lib.hid (parse_snoc (R := RR) htt)
          rw [← hrr] at HPO
          have HDZ : Hid (tt.length ≤ 1000000) := Lib.hid (by
            have h1 : tt ∈ wWrite :: r := by rw [hrr]; simp
            have h2 := (HCE.out _ h1).2
            have h3 := HLS.out
            omega)
          have HZ2 : Hid (∀ x ∈ r1, x.size ≤ 1000000) := Lib.hid (fun x hx => by
            have h1 : x.data.toList ∈ wWrite :: r := List.mem_cons_of_mem _ (by rw [hrr]; exact List.mem_append_left _ (by rw [← hR]; exact List.mem_map_of_mem hx))
            have h2 := (HCE.out _ h1).2
            have h3 := HLS.out
            have h4 : x.data.toList.length = x.size := by rw [Array.length_toList]; rfl
            omega)
          have HNM := Lib.hid (pnums (some ⟨gw, 1, none⟩) (r1.length + 1) r1 w3 (T.p.later HO3.out.since) (T.s.later HO3.out.since) (by omega) HZ2.out (fun _ => ⟨gw, 1, rfl, World.block_lt_of_cell? w3 _ c0, fun i hi => by
            have := HC3.out w3 (Since.refl _) (1 + i) (by omega)
            rw [this]
            unfold sth
            rw [Nat.add_comm 1 i]
            simp [List.getD, List.getElem?_append_left hi]⟩))
          rw [hR] at HNM
          have hn1 : (((r1.length : Int) + 1) == 0) = false := by rw [beq_eq_false_iff_ne]; omega
          have hn2 : (((r1.length + 1 : Nat) : Int) == 0) = false := by rw [beq_eq_false_iff_ne]; omega
          clear hrr hla hR htt
          trace "W"; go_wp2_with (refine wpList_look_S _ rfl _ _ 209 rfl 9 3 Tryz.underlying9 Tryz.wantMap (z := .int .i64 0) (by kernel_rfl) b 9 wantF rfl HM.out wWrite rfl hkz _ hw ?_)
          trace "W6"; refine HNM.out.mono ?_
          rintro e w4 ⟨hb4, hno⟩
          have HO4 := Lib.hid (HO3.out.later hb4)
          have hs4 : Since w3 w4 := hb4
          cases hns : nums RR with
          | none =>
            rw [hns] at hno
            have hno2 : e = .returned (.tuple #[.slice none 0 0, .bool false]) := hno
            subst hno2
            have HV := Lib.hid (line_none (s := s) (ws := wWrite :: r) (by rw [HPO.out, hns]))
            have gu : w4.cell? ⟨1, 0, none⟩ = some (.iface 84 (.int .i64 2)) := HO4.out.since.cell (World.block_lt_of_cell? w0 _ T.u) T.u
            clear hno hns hb4 hs4
            trace "N1"; go_wp2_with fail
            trace "N2"; go_quiet (fail)
            trace "N3"; go_wp2_with fail
            go_ret2
            rw [HV.out.1, HV.out.2]
            exact ⟨rfl, (HO4.out.drewN _).take 2⟩
          | some ns =>
            rw [hns] at hno
            obtain ⟨A', c', rfl, hl4, hn4⟩ := hno
            have HO5 : Hid (Own w0 [] w4 [talkT g s, R, Thing.block gx 129 #[.pointer (some ⟨g, 0, none⟩)], Thing.lst 3 1 (.slice A' ns.length c') (ns.map fun (n : Nat) => intRow n)]) := Lib.hid (HO3.out.add hb4 (t := Thing.lst 3 1 (.slice A' ns.length c') (ns.map fun (n : Nat) => intRow n)) ⟨hl4, rfl⟩ (fun q hq => hn4 q (by rw [blocks_any A' 0 0 ns.length c']; exact hq)))
            clear hl4 hn4 hb4
            by_cases hmn : ns.length = 1
            case neg =>
              have HV := Lib.hid (line_none (s := s) (ws := wWrite :: r) (by rw [HPO.out, hns]; exact if_neg hmn))
              have hb : (((ns.length : Nat) : Int) != ((1 : Nat) : Int)) = true := by simp; omega
              have gu : w4.cell? ⟨1, 0, none⟩ = some (.iface 84 (.int .i64 2)) := HO5.out.since.cell (World.block_lt_of_cell? w0 _ T.u) T.u
              clear hns hs4
              trace "L1"; go_wp2_with fail
              trace "L2"; go_quiet (fail)
              trace "L3"; go_wp2_with fail
              go_ret2
              rw [HV.out.1, HV.out.2]
              exact ⟨rfl, (HO5.out.drewN _).take 2⟩
            have HV := Lib.hid (line_some (s := s) (ws := wWrite :: r) (x := wWrite) (n := ns) (d := tt) (by rw [HPO.out, hns]; exact if_pos hmn))
            have HDO := Lib.hid (fun W (h : Own w0 [] W [talkT g s, R, Thing.lst 3 1 (.slice A' ns.length c') (ns.map fun (n : Nat) => intRow n)]) => pdo w0 T R g s HF.out wWrite ns (tt) (by rw [HMM.out, hmn]) (nums_max hns) HDZ.out A' c' W h)
            have HP5 := Lib.hid (HO5.out.pick [0, 1, 3] (L' := [talkT g s, R, Thing.lst 3 1 (.slice A' ns.length c') (ns.map fun (n : Nat) => intRow n)]) (by decide) (by
              intro i t hi
              match i, hi with
              | 0, hi => exact ⟨0, rfl, hi⟩
              | 1, hi => exact ⟨1, rfl, hi⟩
              | 2, hi => exact ⟨3, rfl, hi⟩
              | i + 3, hi => simp at hi))
            have d0 : w4.cell? ⟨gw, 0, none⟩ = some (.string ⟨wWrite.toArray⟩) := HC3.out _ hs4 0 (by omega)
            have dx : w4.cell? ⟨gx, 0, none⟩ = some (.pointer (some ⟨g, 0, none⟩)) := (HO5.out.blk 2 rfl).cell 0
            obtain ⟨nn, hnn⟩ : ∃ nn, ns.length = nn := ⟨_, rfl⟩
            rw [hnn] at HDO HP5 HO5 hmn
            rw [hnn]
            clear hnn
            subst hmn
            clear hns hs4
            have hp0 : (0 : Int) < (r1.length : Int) + 1 + 1 := by omega
            have hp1 : 0 < r1.length + 1 + 1 := by omega
            trace "Y1"; go_wp2_with fail
            trace "Y2"; go_region_law (go_simp; go_at_call 144; refine (HDO.out _ ?_).mono ?_; (first | exact HP5.out | exact HP5.out.drew); rintro e w5 ⟨rfl, ho5⟩; have HO6 := Lib.hid ho5; clear ho5)
            all_goals
              trace "Y3"; go_wp2_with fail
              go_ret2
              rw [HV.out.1, HV.out.2]
              exact ⟨rfl, HO6.out⟩
    have hk2 : (k == [119, 114, 105, 116, 101]) = false := by
      rw [beq_eq_false_iff_ne]
      exact hkw
    have HDZ : Hid (([] : List UInt8).length ≤ 1000000) := Lib.hid (by simp)
    have HPO := Lib.hid (parse_other (r := r) hkw)
    rw [HMM.out] at HPO
    cases r0 with
    | nil =>
      have HNM := Lib.hid (pnums (some ⟨gw, 0, none⟩) 0 ([] : List ByteArray) w3 (T.p.later HO3.out.since) (T.s.later HO3.out.since) (by simp) (by simp) (fun h => absurd rfl h))
      rw [HR.out] at HNM
      have hz0 : ([] : List ByteArray).length = 0 := rfl
      rw [hz0] at HNM hr9 HC3
      rw [hz0]
      trace "H"; go_wp2_with (refine wpList_look_S _ rfl _ _ 209 rfl 9 3 Tryz.underlying9 Tryz.wantMap (z := .int .i64 0) (by kernel_rfl) b 9 wantF rfl HM.out k rfl hkz _ hw ?_)
      refine HNM.out.mono ?_
      rintro e w4 ⟨hb4, hno⟩
      have HO4 := Lib.hid (HO3.out.later hb4)
      have hs4 : Since w3 w4 := hb4
      cases hns : nums (r) with
      | none =>
        rw [hns] at hno
        have hno2 : e = .returned (.tuple #[.slice none 0 0, .bool false]) := hno
        subst hno2
        have HV := Lib.hid (line_none (s := s) (ws := k :: r) (by rw [HPO.out, hns]))
        have gu : w4.cell? ⟨1, 0, none⟩ = some (.iface 84 (.int .i64 2)) := HO4.out.since.cell (World.block_lt_of_cell? w0 _ T.u) T.u
        clear hno hns hb4 hs4
        trace "N1"; go_wp2_with fail
        trace "N2"; go_quiet (fail)
        trace "N3"; go_wp2_with fail
        go_ret2
        rw [HV.out.1, HV.out.2]
        exact ⟨rfl, (HO4.out.drewN _).take 2⟩
      | some ns =>
        rw [hns] at hno
        obtain ⟨A', c', rfl, hl4, hn4⟩ := hno
        have HO5 : Hid (Own w0 [] w4 [talkT g s, R, Thing.block gx 129 #[.pointer (some ⟨g, 0, none⟩)], Thing.lst 3 1 (.slice A' ns.length c') (ns.map fun (n : Nat) => intRow n)]) := Lib.hid (HO3.out.add hb4 (t := Thing.lst 3 1 (.slice A' ns.length c') (ns.map fun (n : Nat) => intRow n)) ⟨hl4, rfl⟩ (fun q hq => hn4 q (by rw [blocks_any A' 0 0 ns.length c']; exact hq)))
        clear hl4 hn4 hb4
        by_cases hmn : ns.length = m
        case neg =>
          have HV := Lib.hid (line_none (s := s) (ws := k :: r) (by rw [HPO.out, hns]; exact if_neg hmn))
          have hb : (((ns.length : Nat) : Int) != ((m : Nat) : Int)) = true := by simp; omega
          have gu : w4.cell? ⟨1, 0, none⟩ = some (.iface 84 (.int .i64 2)) := HO5.out.since.cell (World.block_lt_of_cell? w0 _ T.u) T.u
          clear hns hs4
          trace "L1"; go_wp2_with fail
          trace "L2"; go_quiet (fail)
          trace "L3"; go_wp2_with fail
          go_ret2
          rw [HV.out.1, HV.out.2]
          exact ⟨rfl, (HO5.out.drewN _).take 2⟩
        have HV := Lib.hid (line_some (s := s) (ws := k :: r) (x := k) (n := ns) (d := []) (by rw [HPO.out, hns]; exact if_pos hmn))
        have HDO := Lib.hid (fun W (h : Own w0 [] W [talkT g s, R, Thing.lst 3 1 (.slice A' ns.length c') (ns.map fun (n : Nat) => intRow n)]) => pdo w0 T R g s HF.out k ns ([]) (by rw [HMM.out, hmn]) (nums_max hns) HDZ.out A' c' W h)
        have HP5 := Lib.hid (HO5.out.pick [0, 1, 3] (L' := [talkT g s, R, Thing.lst 3 1 (.slice A' ns.length c') (ns.map fun (n : Nat) => intRow n)]) (by decide) (by
          intro i t hi
          match i, hi with
          | 0, hi => exact ⟨0, rfl, hi⟩
          | 1, hi => exact ⟨1, rfl, hi⟩
          | 2, hi => exact ⟨3, rfl, hi⟩
          | i + 3, hi => simp at hi))
        have d0 : w4.cell? ⟨gw, 0, none⟩ = some (.string ⟨k.toArray⟩) := HC3.out _ hs4 0 (by omega)
        have dx : w4.cell? ⟨gx, 0, none⟩ = some (.pointer (some ⟨g, 0, none⟩)) := (HO5.out.blk 2 rfl).cell 0
        subst hmn
        have hb : (((ns.length : Nat) : Int) != ((ns.length : Nat) : Int)) = false := by simp
        clear hns hs4
        trace "Y1"; go_wp2_with fail
        trace "Y2"; go_region_law (go_simp; go_at_call 144; refine (HDO.out _ ?_).mono ?_; (first | exact HP5.out | exact HP5.out.drew); rintro e w5 ⟨rfl, ho5⟩; have HO6 := Lib.hid ho5; clear ho5)
        all_goals
          trace "Y3"; go_wp2_with fail
          go_ret2
          rw [HV.out.1, HV.out.2]
          exact ⟨rfl, HO6.out⟩
    | cons y r1 =>
      have hys : (y :: r1).length = r1.length + 1 := rfl
      rw [hys]
      have HZ2 : Hid (∀ x ∈ y :: r1, x.size ≤ 1000000) := Lib.hid (fun x hx => by
        have h1 : x.data.toList ∈ k :: r := List.mem_cons_of_mem _ (by rw [← HR.out]; exact List.mem_map_of_mem hx)
        have h2 := (HCE.out _ h1).2
        have h3 := HLS.out
        have h4 : x.data.toList.length = x.size := by rw [Array.length_toList]; rfl
        omega)
      have HNM := Lib.hid (pnums (some ⟨gw, 1, none⟩) (r1.length + 1) (y :: r1) w3 (T.p.later HO3.out.since) (T.s.later HO3.out.since) (by have := HN.out; omega) HZ2.out (fun _ => ⟨gw, 1, rfl, World.block_lt_of_cell? w3 _ c0, fun i hi => by
        have := HC3.out w3 (Since.refl _) (1 + i) (by rw [hys] at hi; omega)
        rw [this]
        unfold sth
        rw [Nat.add_comm 1 i]
        rfl⟩))
      rw [HR.out, hys] at HNM
      rw [hys] at hr9
      trace "H"; go_wp2_with (refine wpList_look_S _ rfl _ _ 209 rfl 9 3 Tryz.underlying9 Tryz.wantMap (z := .int .i64 0) (by kernel_rfl) b 9 wantF rfl HM.out k rfl hkz _ hw ?_)
      refine HNM.out.mono ?_
      rintro e w4 ⟨hb4, hno⟩
      have HO4 := Lib.hid (HO3.out.later hb4)
      have hs4 : Since w3 w4 := hb4
      cases hns : nums (r) with
      | none =>
        rw [hns] at hno
        have hno2 : e = .returned (.tuple #[.slice none 0 0, .bool false]) := hno
        subst hno2
        have HV := Lib.hid (line_none (s := s) (ws := k :: r) (by rw [HPO.out, hns]))
        have gu : w4.cell? ⟨1, 0, none⟩ = some (.iface 84 (.int .i64 2)) := HO4.out.since.cell (World.block_lt_of_cell? w0 _ T.u) T.u
        clear hno hns hb4 hs4
        trace "N1"; go_wp2_with fail
        trace "N2"; go_quiet (fail)
        trace "N3"; go_wp2_with fail
        go_ret2
        rw [HV.out.1, HV.out.2]
        exact ⟨rfl, (HO4.out.drewN _).take 2⟩
      | some ns =>
        rw [hns] at hno
        obtain ⟨A', c', rfl, hl4, hn4⟩ := hno
        have HO5 : Hid (Own w0 [] w4 [talkT g s, R, Thing.block gx 129 #[.pointer (some ⟨g, 0, none⟩)], Thing.lst 3 1 (.slice A' ns.length c') (ns.map fun (n : Nat) => intRow n)]) := Lib.hid (HO3.out.add hb4 (t := Thing.lst 3 1 (.slice A' ns.length c') (ns.map fun (n : Nat) => intRow n)) ⟨hl4, rfl⟩ (fun q hq => hn4 q (by rw [blocks_any A' 0 0 ns.length c']; exact hq)))
        clear hl4 hn4 hb4
        by_cases hmn : ns.length = m
        case neg =>
          have HV := Lib.hid (line_none (s := s) (ws := k :: r) (by rw [HPO.out, hns]; exact if_neg hmn))
          have hb : (((ns.length : Nat) : Int) != ((m : Nat) : Int)) = true := by simp; omega
          have gu : w4.cell? ⟨1, 0, none⟩ = some (.iface 84 (.int .i64 2)) := HO5.out.since.cell (World.block_lt_of_cell? w0 _ T.u) T.u
          clear hns hs4
          trace "L1"; go_wp2_with fail
          trace "L2"; go_quiet (fail)
          trace "L3"; go_wp2_with fail
          go_ret2
          rw [HV.out.1, HV.out.2]
          exact ⟨rfl, (HO5.out.drewN _).take 2⟩
        have HV := Lib.hid (line_some (s := s) (ws := k :: r) (x := k) (n := ns) (d := []) (by rw [HPO.out, hns]; exact if_pos hmn))
        have HDO := Lib.hid (fun W (h : Own w0 [] W [talkT g s, R, Thing.lst 3 1 (.slice A' ns.length c') (ns.map fun (n : Nat) => intRow n)]) => pdo w0 T R g s HF.out k ns ([]) (by rw [HMM.out, hmn]) (nums_max hns) HDZ.out A' c' W h)
        have HP5 := Lib.hid (HO5.out.pick [0, 1, 3] (L' := [talkT g s, R, Thing.lst 3 1 (.slice A' ns.length c') (ns.map fun (n : Nat) => intRow n)]) (by decide) (by
          intro i t hi
          match i, hi with
          | 0, hi => exact ⟨0, rfl, hi⟩
          | 1, hi => exact ⟨1, rfl, hi⟩
          | 2, hi => exact ⟨3, rfl, hi⟩
          | i + 3, hi => simp at hi))
        have d0 : w4.cell? ⟨gw, 0, none⟩ = some (.string ⟨k.toArray⟩) := HC3.out _ hs4 0 (by omega)
        have dx : w4.cell? ⟨gx, 0, none⟩ = some (.pointer (some ⟨g, 0, none⟩)) := (HO5.out.blk 2 rfl).cell 0
        subst hmn
        have hb : (((ns.length : Nat) : Int) != ((ns.length : Nat) : Int)) = false := by simp
        clear hns hs4
        have hp0 : (0 : Int) < (r1.length : Int) + 1 + 1 := by omega
        have hp1 : 0 < r1.length + 1 + 1 := by omega
        trace "Y1"; go_wp2_with fail
        trace "Y2"; go_region_law (go_simp; go_at_call 144; refine (HDO.out _ ?_).mono ?_; (first | exact HP5.out | exact HP5.out.drew); rintro e w5 ⟨rfl, ho5⟩; have HO6 := Lib.hid ho5; clear ho5)
        all_goals
          trace "Y3"; go_wp2_with fail
          go_ret2
          rw [HV.out.1, HV.out.2]
          exact ⟨rfl, HO6.out⟩
end Go.Proofs.YtmfbaijbigodkaaGreatDoor

/-! An error's name, and desk.answer, by contracts: the answer to a line. Condition: the tables hold what the program's text lays; each end made no more than 1000 packets; the line is short. -/
namespace Go.Proofs.YtmfbaijbigodkaaGreatDoor
open Go.ChangeShapes Go.WideShapes Go.ChangeAt Go.RowKit Go.Shelf
set_option linter.unusedVariables false

set_option maxHeartbeats 1600000 in
theorem pname (n : Int) (w : World) : Calls Tryz.prog 115 #[.int .i64 n] w fun e w' => e = .returned (.string (eName n)) ∧ w = w' := by
  obtain ⟨X, hX⟩ : ∃ X, eName n = X := ⟨_, rfl⟩
  rw [hX]
  have HX := Lib.hid hX
  clear hX
  by_cases h0 : n = 0
  · subst h0
    have hx : X = eName 0 := HX.out.symm
    subst hx
    go_enter Tryz.func115, Tryz.ntmps115
    go_wp2_with fail
    go_ret
    exact ⟨rfl, rfl⟩
  have q0 : (n == 0) = false := by simpa using h0
  by_cases h1 : n = 1
  · subst h1
    have hx : X = eName 1 := HX.out.symm
    subst hx
    go_enter Tryz.func115, Tryz.ntmps115
    go_wp2_with fail
    go_ret
    exact ⟨rfl, rfl⟩
  have q1 : (n == 1) = false := by simpa using h1
  by_cases h2 : n = 2
  · subst h2
    have hx : X = eName 2 := HX.out.symm
    subst hx
    go_enter Tryz.func115, Tryz.ntmps115
    go_wp2_with fail
    go_ret
    exact ⟨rfl, rfl⟩
  have q2 : (n == 2) = false := by simpa using h2
  by_cases h3 : n = 3
  · subst h3
    have hx : X = eName 3 := HX.out.symm
    subst hx
    go_enter Tryz.func115, Tryz.ntmps115
    go_wp2_with fail
    go_ret
    exact ⟨rfl, rfl⟩
  have q3 : (n == 3) = false := by simpa using h3
  by_cases h4 : n = 4
  · subst h4
    have hx : X = eName 4 := HX.out.symm
    subst hx
    go_enter Tryz.func115, Tryz.ntmps115
    go_wp2_with fail
    go_ret
    exact ⟨rfl, rfl⟩
  have q4 : (n == 4) = false := by simpa using h4
  by_cases h5 : n = 5
  · subst h5
    have hx : X = eName 5 := HX.out.symm
    subst hx
    go_enter Tryz.func115, Tryz.ntmps115
    go_wp2_with fail
    go_ret
    exact ⟨rfl, rfl⟩
  have q5 : (n == 5) = false := by simpa using h5
  by_cases h6 : n = 6
  · subst h6
    have hx : X = eName 6 := HX.out.symm
    subst hx
    go_enter Tryz.func115, Tryz.ntmps115
    go_wp2_with fail
    go_ret
    exact ⟨rfl, rfl⟩
  have q6 : (n == 6) = false := by simpa using h6
  by_cases h7 : n = 7
  · subst h7
    have hx : X = eName 7 := HX.out.symm
    subst hx
    go_enter Tryz.func115, Tryz.ntmps115
    go_wp2_with fail
    go_ret
    exact ⟨rfl, rfl⟩
  have q7 : (n == 7) = false := by simpa using h7
  by_cases h8 : n = 8
  · subst h8
    have hx : X = eName 8 := HX.out.symm
    subst hx
    go_enter Tryz.func115, Tryz.ntmps115
    go_wp2_with fail
    go_ret
    exact ⟨rfl, rfl⟩
  have q8 : (n == 8) = false := by simpa using h8
  have hx : X = ⟨#[69, 114, 114, 110, 111]⟩ := by
    rw [← HX.out]
    unfold eName
    rw [if_neg h0, if_neg h1, if_neg h2, if_neg h3, if_neg h4, if_neg h5, if_neg h6, if_neg h7, if_neg h8]
  subst hx
  clear h0 h1 h2 h3 h4 h5 h6 h7 h8
  go_enter Tryz.func115, Tryz.ntmps115
  go_wp2_with fail
  go_ret
  exact ⟨rfl, rfl⟩
set_option maxHeartbeats 1600000 in
theorem panswer (w0 : World) (T : RTabs w0) (R : Thing) (g : Nat) (s : TkS) (hf : Few s 1000) (l : ByteArray) (hl : l.size ≤ 100000) (w : World) (ho : Own w0 [] w [talkT g s, R]) :
    Calls Tryz.prog 77 #[.agg #[.pointer (some ⟨g, 0, none⟩)], .string l] w fun e w' => e = .returned (.string (ans s l.data.toList).1) ∧ Own w0 [] w' [talkT g (ans s l.data.toList).2, R] := by
  have HO := Lib.hid (ho.later ((Since.refl w).alloc (.cells #[.pointer (some ⟨g, 0, none⟩)] 129)))
  obtain ⟨ws, hws⟩ : ∃ ws, cutAt 32 l.data.toList = ws := ⟨_, rfl⟩
  have HA : Hid (ans s l.data.toList = ansW s ws) := Lib.hid (by unfold ans; rw [hws])
  have HLI := Lib.hid (pline w0 T R g s hf l hl _ HO.out)
  rw [hws] at HLI
  rw [HA.out]
  clear ho hf hl hws
  cases hp : parse ws with
  | none =>
    have HV := line_none (s := s) hp
    rw [HV.1, HV.2] at HLI
    have HW : Hid (ansW s ws = (bBad, s)) := Lib.hid (by unfold ansW; rw [hp])
    rw [HW.out]
    clear HV hp HA
    go_enter Tryz.func77, Tryz.ntmps77
    trace "A"; go_wp2_with fail
    refine HLI.out.mono ?_
    rintro e w1 ⟨rfl, ho1⟩
    have HO1 := Lib.hid ho1
    clear ho1
    have cb : ((w1.alloc (.cells #[.nilIface] 175)).alloc (.cells #[.int .i64 0] 84)).cell? ⟨w1.heap.size, 0, none⟩ = some .nilIface := ((BlockIs.fresh w1 175 #[.nilIface]).alloc _).cell 0
    have fb : ((w1.alloc (.cells #[.nilIface] 175)).alloc (.cells #[.int .i64 0] 84)).frozen? ⟨w1.heap.size, 0, none⟩ = false := ((BlockIs.fresh w1 175 #[.nilIface]).alloc _).free 0
    have hs2 : Since w1 ((w1.alloc (.cells #[.nilIface] 175)).alloc (.cells #[.int .i64 0] 84)) := (by refine Since.out ?_; repeat (first | with_reducible assumption | with_reducible exact Since.refl _ | with_reducible refine Since.later ?_ (by with_reducible assumption) | with_reducible refine Since.only ?_ (by with_reducible assumption) (by first | assumption | omega | (simp; done) | (simp; omega)) | with_reducible refine Since.alloc ?_ _ | with_reducible refine Since.drewN ?_ _ | with_reducible refine Since.drew ?_ | with_reducible refine Since.set ?_ (by first | assumption | omega | (simp; done) | (simp; omega)) _))
    have HH := Lib.hid (asb_hit ⟨w1.heap.size, 0, none⟩ .nilIface _ (T.e.later (HO1.out.since.later hs2)) cb fb)
    clear cb fb
    trace "B"; go_wp2_with fail
    refine HH.out.mono ?_
    rintro e w2 ⟨rfl, rfl⟩
    trace "C"; go_wp2_with fail
    go_ret
    refine ⟨rfl, HO1.out.later ?_⟩
    exact (by refine Since.out ?_; repeat (first | with_reducible assumption | with_reducible exact Since.refl _ | with_reducible refine Since.later ?_ (by with_reducible assumption) | with_reducible refine Since.only ?_ (by with_reducible assumption) (by first | assumption | omega | (simp; done) | (simp; omega)) | with_reducible refine Since.alloc ?_ _ | with_reducible refine Since.drewN ?_ _ | with_reducible refine Since.drew ?_ | with_reducible refine Since.set ?_ (by first | assumption | omega | (simp; done) | (simp; omega)) _))
  | some t =>
    obtain ⟨x, ns, d⟩ := t
    have HV := line_some (s := s) hp
    rw [HV.1, HV.2] at HLI
    have HW : Hid (ansW s ws = (if (doW s x ns d).2.1 = 0 then (doW s x ns d).1 else eName (doW s x ns d).2.1, (doW s x ns d).2.2)) := Lib.hid (by unfold ansW; rw [hp])
    rw [HW.out]
    clear HV hp HA HW
    generalize (doW s x ns d).1 = X at *
    generalize (doW s x ns d).2.1 = E at *
    generalize (doW s x ns d).2.2 = s2 at *
    by_cases hE : E = 0
    · subst hE
      rw [errV_zero] at HLI
      rw [if_pos rfl]
      go_enter Tryz.func77, Tryz.ntmps77
      trace "D"; go_wp2_with fail
      refine HLI.out.mono ?_
      rintro e w1 ⟨rfl, ho1⟩
      have HO1 := Lib.hid ho1
      clear ho1
      have HO2 := Lib.hid (HO1.out.later (show Since w1 ((w1.alloc (.cells #[.nilIface] 175)).alloc (.cells #[.int .i64 0] 84)) from ((by refine Since.out ?_; repeat (first | with_reducible assumption | with_reducible exact Since.refl _ | with_reducible refine Since.later ?_ (by with_reducible assumption) | with_reducible refine Since.only ?_ (by with_reducible assumption) (by first | assumption | omega | (simp; done) | (simp; omega)) | with_reducible refine Since.alloc ?_ _ | with_reducible refine Since.drewN ?_ _ | with_reducible refine Since.drew ?_ | with_reducible refine Since.set ?_ (by first | assumption | omega | (simp; done) | (simp; omega)) _)))))
      trace "E"; go_wp2_with (go_at_call 85; refine (as_nil _ _).mono ?_; rintro e w2 ⟨rfl, rfl⟩)
      go_ret
      exact ⟨rfl, HO2.out⟩
    · rw [errV_pos hE] at HLI
      rw [if_neg hE]
      clear hE
      go_enter Tryz.func77, Tryz.ntmps77
      trace "F"; go_wp2_with fail
      refine HLI.out.mono ?_
      rintro e w1 ⟨rfl, ho1⟩
      have HO1 := Lib.hid ho1
      clear ho1
      have hs2 : Since w1 ((w1.alloc (.cells #[.nilIface] 175)).alloc (.cells #[.int .i64 0] 84)) := (by refine Since.out ?_; repeat (first | with_reducible assumption | with_reducible exact Since.refl _ | with_reducible refine Since.later ?_ (by with_reducible assumption) | with_reducible refine Since.only ?_ (by with_reducible assumption) (by first | assumption | omega | (simp; done) | (simp; omega)) | with_reducible refine Since.alloc ?_ _ | with_reducible refine Since.drewN ?_ _ | with_reducible refine Since.drew ?_ | with_reducible refine Since.set ?_ (by first | assumption | omega | (simp; done) | (simp; omega)) _))
      have HB : Hid (BlockIs ((w1.alloc (.cells #[.nilIface] 175)).alloc (.cells #[.int .i64 0] 84)) (w1.heap.size + 1) 84 #[.int .i64 0]) := Lib.hid (BlockIs.fresh_at (by simp))
      have HM := Lib.hid (asb_miss E ⟨w1.heap.size, 0, none⟩ _ (T.e.later (HO1.out.since.later hs2)))
      trace "G"; go_wp2_with fail
      refine HM.out.mono ?_
      rintro e w2 ⟨rfl, hb2⟩
      have hs3 : Since w1 w2 := hs2.later hb2
      have HB2 := Lib.hid (HB.out.later hb2)
      have HH := Lib.hid (as_hit E ⟨w1.heap.size + 1, 0, none⟩ (.int .i64 0) w2 (T.e.later (HO1.out.since.later hs3)) (HB2.out.cell 0) (HB2.out.free 0))
      clear hb2
      trace "H"; go_wp2_with fail
      refine HH.out.mono ?_
      rintro e w3 ⟨rfl, rfl⟩
      have hlt := HB2.out.lt
      have hs5 : Since w1 (((((w2.alloc (.cells #[.pointer (some ⟨w1.heap.size + 1, 0, none⟩)] 148)).alloc (.cells #[.pointer (some ⟨12, 148, none⟩), .pointer (some ⟨w2.heap.size, 0, none⟩), .int .u64 150] 181)).alloc (.cells #[.pointer (some ⟨12, 148, none⟩), .pointer (some ⟨w2.heap.size, 0, none⟩), .int .u64 150] 181)).alloc (.cells #[.int .i64 E] 84)).setCell ⟨w1.heap.size + 1, 0, none⟩ (.int .i64 E)) := (by refine Since.out ?_; repeat (first | with_reducible assumption | with_reducible exact Since.refl _ | with_reducible refine Since.later ?_ (by with_reducible assumption) | with_reducible refine Since.only ?_ (by with_reducible assumption) (by first | assumption | omega | (simp; done) | (simp; omega)) | with_reducible refine Since.alloc ?_ _ | with_reducible refine Since.drewN ?_ _ | with_reducible refine Since.drew ?_ | with_reducible refine Since.set ?_ (by first | assumption | omega | (simp; done) | (simp; omega)) _))
      have HO3 := Lib.hid (HO1.out.later hs5)
      have ce : (((((w2.alloc (.cells #[.pointer (some ⟨w1.heap.size + 1, 0, none⟩)] 148)).alloc (.cells #[.pointer (some ⟨12, 148, none⟩), .pointer (some ⟨w2.heap.size, 0, none⟩), .int .u64 150] 181)).alloc (.cells #[.pointer (some ⟨12, 148, none⟩), .pointer (some ⟨w2.heap.size, 0, none⟩), .int .u64 150] 181)).alloc (.cells #[.int .i64 E] 84)).setCell ⟨w1.heap.size + 1, 0, none⟩ (.int .i64 E)).cell? ⟨w1.heap.size + 1, 0, none⟩ = some (.int .i64 E) := (((((HB2.out.alloc _).alloc _).alloc _).alloc _).put 0 (.int .i64 E)).cell 0
      trace "I"; go_wp2_with (go_at_call 115; refine (pname E _).mono ?_; rintro e w4 ⟨rfl, rfl⟩)
      go_ret
      exact ⟨rfl, HO3.out⟩
end Go.Proofs.YtmfbaijbigodkaaGreatDoor

/-! A talk lies in rows of cells alone; a strings.Builder as a thing; desk.answer once more, by what it leaves. Condition: the tables hold what the program's text lays. -/
namespace Go.Proofs.YtmfbaijbigodkaaGreatDoor
open Go.ChangeShapes Go.WideShapes Go.ChangeAt Go.RowKit Go.Shelf
set_option linter.unusedVariables false

/-- block k is a row of cells -/
def CellsAt (w : World) (k : Nat) : Prop := ∃ o : Obj, w.heap[k]? = some o ∧ o.isCells = true
/-- what lies so lies so in rows of cells alone -/
def Shr (t : Thing) : Prop := ∀ (w : World) (S : List Nat), t.is w S → ∃ S' : List Nat, (∀ k, k ∈ S' → k ∈ S) ∧ t.is w S' ∧ ∀ k, k ∈ S' → CellsAt w k
theorem cells_block {w : World} {g : Nat} {t : TypeId} {cs : Array Value} (h : BlockIs w g t cs) : CellsAt w g := ⟨_, h, rfl⟩
theorem cells_lst {w : World} {E size : Nat} {v : Value} {es : List (List Value)} (h : Lst w E size v es) : ∀ k, k ∈ blocks v → CellsAt w k := by
  intro k hk
  rcases h.own.2 with ⟨rfl, _⟩ | ⟨g, cap, cur, rfl, _, hg, _⟩
  · simp [Value.ownBlock] at hk
  · have : g = k := by simpa [Value.ownBlock] using hk
    subst this
    exact ⟨_, hg, rfl⟩
theorem Shr.block (g : Nat) (t : TypeId) (cs : Array Value) : Shr (Thing.block g t cs) := fun w S h => ⟨S, fun k hk => hk, h, fun k hk => by
  rw [h.2, List.mem_singleton] at hk
  subst hk
  exact cells_block h.1⟩
theorem Shr.lst (E size : Nat) (v : Value) (es : List (List Value)) : Shr (Thing.lst E size v es) := fun w S h => ⟨S, fun k hk => hk, h, fun k hk => cells_lst h.1 k (by rw [← h.2]; exact hk)⟩
theorem Shr.ex {α : Type} {f : α → Thing} (h : ∀ a, Shr (f a)) : Shr (Thing.ex f) := fun w S ⟨a, ha⟩ => by
  obtain ⟨S', h1, h2, h3⟩ := h a w S ha
  exact ⟨S', h1, ⟨a, h2⟩, h3⟩
theorem Shr.with_ {p : Prop} {t : Thing} (h : Shr t) : Shr (Thing.with_ p t) := fun w S ⟨hp, ht⟩ => by
  obtain ⟨S', h1, h2, h3⟩ := h w S ht
  exact ⟨S', h1, ⟨hp, h2⟩, h3⟩
theorem Shr.all {L : List Thing} (h : ∀ t, t ∈ L → Shr t) : Shr (Thing.all L) := fun w S ⟨hlt, own, ho⟩ => by
  obtain ⟨S', h1, h2⟩ := gather (L := L) (w := w) (p := fun i k => own k = i ∧ k ∈ S ∧ CellsAt w k) (fun i t hi => by
    obtain ⟨Si, j1, j2⟩ := ho i t hi
    obtain ⟨Sj, q1, q2, q3⟩ := h t (List.mem_of_getElem? hi) w Si j1
    exact ⟨Sj, q2, fun k hk => ⟨(j2 k (q1 k hk)).1, (j2 k (q1 k hk)).2, q3 k hk⟩⟩)
  refine ⟨S', fun k hk => ?_, ⟨fun k hk => ?_, own, fun i t hi => ?_⟩, fun k hk => ?_⟩
  · obtain ⟨i, hp, _⟩ := h2 k hk
    exact hp.2.1
  · obtain ⟨i, _, hz⟩ := h2 k hk
    exact hz
  · obtain ⟨Si, a, b⟩ := h1 i t hi
    exact ⟨Si, a, fun k hk => ⟨(b k hk).1.1, (b k hk).2⟩⟩
  · obtain ⟨i, hp, _⟩ := h2 k hk
    exact hp.2.2
theorem shr_inner : ∀ (vs : List Value) (L : List (List Pc)), ∀ t, t ∈ inner vs L → Shr t
  | [], _, t, h => by simp [inner] at h
  | _ :: _, [], t, h => by simp [inner] at h
  | v :: vs, ps :: L, t, h => by
    rw [inner] at h
    rcases List.mem_cons.1 h with rfl | h
    · exact Shr.lst _ _ _ _
    · exact shr_inner vs L t h
theorem shr_end (g : Nat) (s : EnS) : Shr (endT g s) := Shr.ex fun p => Shr.with_ (Shr.all fun t ht => by
  unfold enParts at ht
  simp only [List.mem_cons] at ht
  rcases ht with rfl | rfl | rfl | rfl | rfl | ht
  · exact Shr.block _ _ _
  · exact Shr.block _ _ _
  · exact Shr.block _ _ _
  · exact Shr.lst _ _ _ _
  · exact Shr.lst _ _ _ _
  · exact shr_inner _ _ t ht)
theorem shr_link (g : Nat) (L : List Let) : Shr (linkT g L) := fun w S h => by
  obtain ⟨v, hz, rfl⟩ := h
  refine ⟨g :: blocks v, fun k hk => hk, ⟨v, hz, rfl⟩, fun k hk => ?_⟩
  rcases List.mem_cons.1 hk with rfl | hk
  · exact cells_block hz.bl
  · exact cells_lst hz.ls k hk
theorem shr_talk (g : Nat) (s : TkS) : Shr (talkT g s) := Shr.ex fun p => Shr.with_ (Shr.all fun t ht => by
  unfold tkParts at ht
  simp only [List.mem_cons, List.not_mem_nil, or_false] at ht
  rcases ht with rfl | rfl | rfl | rfl
  · exact Shr.block _ _ _
  · exact shr_link _ _
  · exact shr_end _ _
  · exact shr_end _ _)
/-- these blocks stand as they stood in w0 -/
def stayT (w0 : World) (K : List Nat) : Thing where
  is w S := (∀ k, k ∈ S → k < w.heap.size) ∧ S = K ∧ (∀ k, k ∈ K → w.heap[k]? = w0.heap[k]?) ∧ w0.heap.size ≤ w.heap.size
  lt h k hk := h.1 k hk
  kept h ho hd := ⟨fun k hk => Nat.lt_of_lt_of_le (h.1 k hk) ho.size, h.2.1, fun k hk => (ho.block k (h.1 k (by rw [h.2.1]; exact hk)) (hd k (by rw [h.2.1]; exact hk))).trans (h.2.2.1 k hk), Nat.le_trans h.2.2.2 ho.size⟩
/-- the blocks of w that S has not -/
def others (w : World) (S : List Nat) : List Nat := (List.range w.heap.size).filter fun k => !S.contains k
theorem mem_others {w : World} {S : List Nat} {k : Nat} : k ∈ others w S ↔ k < w.heap.size ∧ k ∉ S := by
  unfold others
  simp
/-- a call that is told with whatever stands beside is told by what it leaves -/
theorem leaves_own {P : Program} {f : FuncId} {args : Array Value} {w0 w : World} {S : List Nat} {t t' : Thing} {r : Value} (h0 : Since w0 w) (ht : t.is w S) (hS : ∀ k, k ∈ S → w0.heap.size ≤ k)
    (hc : ∀ R : Thing, Own w0 [] w [t, R] → Calls P f args w fun e w' => e = .returned r ∧ Own w0 [] w' [t', R]) : Calls P f args w fun e w' => e = .returned r ∧ Leaves w w' S t' := by
  have ho : Own w0 [] w [t, stayT w ((others w S).filter fun k => decide (w0.heap.size ≤ k))] := by
    refine ⟨Out.of_below h0 [], fun k => if k ∈ S then 0 else 1, fun i u hi => ?_⟩
    match i, hi with
    | 0, hi =>
      simp only [List.getElem?_cons_zero, Option.some.injEq] at hi
      subst hi
      exact ⟨S, ht, fun k hk => ⟨if_pos hk, Or.inr (hS k hk)⟩⟩
    | 1, hi =>
      simp only [List.getElem?_cons_succ, List.getElem?_cons_zero, Option.some.injEq] at hi
      subst hi
      refine ⟨_, ⟨fun k hk => ?_, rfl, fun k _ => rfl, Nat.le_refl _⟩, fun k hk => ?_⟩
      · exact (mem_others.1 (List.mem_filter.1 hk).1).1
      · obtain ⟨h1, h2⟩ := List.mem_filter.1 hk
        exact ⟨if_neg (mem_others.1 h1).2, Or.inr (by simpa using h2)⟩
    | i + 2, hi => simp at hi
  refine (hc _ ho).mono ?_
  rintro e w' ⟨rfl, hw⟩
  refine ⟨rfl, ?_⟩
  obtain ⟨own, hh⟩ := hw.has
  obtain ⟨S1, a1, b1⟩ := hh 0 _ rfl
  obtain ⟨S2, a2, b2⟩ := hh 1 _ rfl
  have hs := hw.since
  obtain ⟨_, rfl, c1, c2⟩ := a2
  refine ⟨S1, a1, ⟨hs.os.trans h0.os.symm, hs.tape.trans h0.tape.symm, hs.output.trans h0.output.symm, c2, fun k hk hn => ?_⟩, fun k hk => ?_⟩
  · rcases Nat.lt_or_ge k w0.heap.size with h | h
    · exact (hs.block k h).trans (h0.block k h).symm
    · exact c1 k (List.mem_filter.2 ⟨mem_others.2 ⟨hk, hn⟩, by simpa using h⟩)
  · obtain ⟨o1, o2⟩ := b1 k hk
    have hge : w0.heap.size ≤ k := by
      rcases o2 with h | h
      · simp at h
      · exact h
    rcases Nat.lt_or_ge k w.heap.size with h | h
    · left
      rcases Classical.em (k ∈ S) with hm | hm
      · exact hm
      · exfalso
        have := (b2 k (List.mem_filter.2 ⟨mem_others.2 ⟨h, hm⟩, by simpa using hge⟩)).1
        omega
    · exact Or.inr h
/-- desk.answer -/
theorem answerL (w0 : World) (T : RTabs w0) (g : Nat) (s : TkS) (hf : Few s 1000) (l : ByteArray) (hl : l.size ≤ 100000) (w : World) (S : List Nat) (h0 : Since w0 w) (ht : (talkT g s).is w S) (hS : ∀ k, k ∈ S → w0.heap.size ≤ k) :
    Calls Tryz.prog 77 #[.agg #[.pointer (some ⟨g, 0, none⟩)], .string l] w fun e w' => e = .returned (.string (ans s l.data.toList).1) ∧ Leaves w w' S (talkT g (ans s l.data.toList).2) :=
  leaves_own h0 ht hS (fun R ho => panswer w0 T R g s hf l hl w ho)
/-- a builder that holds these bytes -/
def bldT (b : Nat) (l : List UInt8) : Thing where
  is w S := ∃ p v, (p = .pointer none ∨ p = .pointer (some ⟨b, 0, none⟩)) ∧ w.heap[b]? = some (.cells #[p, v] 133 (0, 0)) ∧ w.ownsRowF 0 5 1 v l.length (Lib.byteCells l) ∧ S = b :: blocks v
  lt h k hk := by
    obtain ⟨p, v, _, h2, h3, rfl⟩ := h
    rcases List.mem_cons.1 hk with rfl | hk
    · exact (Array.getElem?_eq_some_iff.1 h2).1
    · exact (h3.lt k (by simpa [Option.mem_toList] using hk)).2
  kept h ho hd := by
    obtain ⟨p, v, h1, h2, h3, rfl⟩ := h
    refine ⟨p, v, h1, (ho.block b (Array.getElem?_eq_some_iff.1 h2).1 (hd b (by simp))).trans h2, ⟨h3.1, ?_⟩, rfl⟩
    rcases h3.2 with hn | ⟨g, cap, cur, fz, rfl, hb, hg, rest⟩
    · exact Or.inl hn
    · exact Or.inr ⟨g, cap, cur, fz, rfl, hb, (ho.block g (Array.getElem?_eq_some_iff.1 hg).1 (hd g (by simp [Value.ownBlock]))).trans hg, rest⟩
theorem shr_bld (b : Nat) (l : List UInt8) : Shr (bldT b l) := fun w S h => by
  obtain ⟨p, v, h1, h2, h3, rfl⟩ := h
  refine ⟨b :: blocks v, fun k hk => hk, ⟨p, v, h1, h2, h3, rfl⟩, fun k hk => ?_⟩
  rcases List.mem_cons.1 hk with rfl | hk
  · exact ⟨_, h2, rfl⟩
  · rcases h3.2 with ⟨rfl, _⟩ | ⟨g, cap, cur, fz, rfl, _, hg, _⟩
    · simp [Value.ownBlock] at hk
    · have : g = k := by simpa [Value.ownBlock] using hk
      subst this
      exact ⟨_, hg, rfl⟩
theorem bld_fresh (w : World) : (bldT w.heap.size []).is (w.alloc (.cells #[.pointer none, .slice none 0 0] 133)) [w.heap.size] :=
  ⟨.pointer none, .slice none 0 0, Or.inl rfl, World.alloc_heap_new w _, ⟨rfl, Or.inl ⟨rfl, rfl⟩⟩, by simp [Value.ownBlock]⟩
/-- String -/
theorem bld_text (w0 : World) (b : Nat) (l : List UInt8) (w : World) (S : List Nat) (h0 : Since w0 w) (h : (bldT b l).is w S) (hS : ∀ k, k ∈ S → w0.heap.size ≤ k) :
    Calls Tryz.prog 79 #[.pointer (some ⟨b, 0, none⟩)] w fun e w' => e = .returned (.string ⟨l.toArray⟩) ∧ Since w0 w' ∧ ∀ (k : Nat) (o : Obj), w.heap[k]? = some o → o.isCells = false → w'.heap[k]? = some o := by
  obtain ⟨p, v, h1, h2, h3, rfl⟩ := h
  have hb : w0.heap.size ≤ b := hS b (by simp)
  have ho : w.ownsRowF w0.heap.size 5 1 v (Lib.byteCells l).length (Lib.byteCells l) := by
    rw [Lib.byteCells_length]
    refine ⟨h3.1, ?_⟩
    rcases h3.2 with hn | ⟨g, cap, cur, fz, rfl, _, rest⟩
    · exact Or.inl hn
    · exact Or.inr ⟨g, cap, cur, fz, rfl, hS g (by simp [Value.ownBlock]), rest⟩
  have hne : v.ownBlock ≠ some b := by
    rcases h3.2 with ⟨rfl, _⟩ | ⟨g, cap, cur, fz, rfl, _, hg, _⟩
    · simp [Value.ownBlock]
    · intro e
      have : g = b := by simpa [Value.ownBlock] using e
      subst this
      rw [h2] at hg
      injection hg with hg
      injection hg with _ hg
      exact absurd hg (by decide)
  have hI : Lib.IsBuilderF 133 5 w0.heap.size b (Lib.byteCells l) w := by
    rcases h1 with rfl | rfl
    · exact Or.inl ⟨hb, v, h2, ho, hne⟩
    · exact Or.inr ⟨hb, v, h2, ho, hne⟩
  refine (bstringK w0.heap.size b l w hI h0.size).mono ?_
  rintro e w' ⟨rfl, _, hbw, hok⟩
  refine ⟨rfl, h0.trans hbw, fun k o hk hc => hok k o hk (fun e => ?_) (fun c fz e => ?_)⟩
  · rw [Option.some.inj e] at hk
    rw [h2] at hk
    cases hk
    cases hc
  · subst e
    cases hc
theorem bcheck (b : Nat) (w : World) (p v : Value) (hp : p = .pointer none ∨ p = .pointer (some ⟨b, 0, none⟩)) (h : w.heap[b]? = some (.cells #[p, v] 133 (0, 0))) :
    Calls Tryz.prog 113 #[.pointer (some ⟨b, 0, none⟩)] w fun e w' => e = .returned (.tuple #[]) ∧ w'.heap[b]? = some (.cells #[.pointer (some ⟨b, 0, none⟩), v] 133 (0, 0)) ∧ Out w w' [b] := by
  rcases hp with rfl | rfl
  · refine (Go.Proofs.Any.Builder_copyCheck_fresh (ρ := lays166_ren) { lays166 with } { extra166 with } b w (by simp [World.cell?, h]) (by simp [World.shape?, h]; rfl) (by simp [World.frozen?, h])).mono ?_
    rintro e w' ⟨rfl, rfl⟩
    refine ⟨rfl, ?_, (Out.refl w _).put (Or.inl (by simp)) _⟩
    simp [World.setCell, Array.getElem?_modify, h]
  · refine (Go.Proofs.Any.Builder_copyCheck_used (ρ := lays166_ren) { lays166 with } { extra166 with } b w (by simp [World.cell?, h])).mono ?_
    rintro e w' ⟨rfl, rfl⟩
    exact ⟨rfl, h, Out.refl _ _⟩
theorem byteCells_app (l : List UInt8) (s : ByteArray) : Lib.byteCells l ++ Lib.strCells s = Lib.byteCells (l ++ s.data.toList) := by
  unfold Lib.byteCells Lib.strCells
  simp
section
variable {P : Program} {w : World}
/-- where an append of a string puts what it gives: into the old row, or into a new one -/
theorem append_where {t u ty e : TypeId} {i : TypeInfo} (ht : P.underlying t = some (.slice e)) (hu : P.underlying u = some .string) (hi : P.info? e = some i) (hz : i.zero = some (.int .u8 0)) (hsize : i.size = 1) (hby : i.bytes = 1)
    {base : Nat} {v : Value} {n : Nat} {xs : List Value} (hown : w.ownsRowF base e 1 v n xs) {s : ByteArray} (h63 : n + s.size ≤ maxLen) (hbytes : n + s.size ≤ 140737488355328) {v' : Value} {w' : World}
    (hr : (Builtin.append_ #[t, u] ty #[v, .string s]).run P w = .ok v' w') : ∀ k, v'.ownBlock = some k → v.ownBlock = some k ∨ w.heap.size ≤ k := by
  intro k hk
  rcases hown.2 with ⟨rfl, rfl⟩ | ⟨g, cap, cur, fz, rfl, _, hg, hfz, hnc, hcm, hcs, _⟩
  · obtain ⟨v1, w1, h1, h2, _, _⟩ := Lib.run_append_own_string (P := P) w w.heap.size t u ty e i ht hu hi hz hsize hby (.slice none 0 0) 0 xs ⟨hown.1, .inl ⟨rfl, rfl⟩⟩ s h63 hbytes (Nat.le_refl _)
    rw [h1] at hr
    cases hr
    exact Or.inr (h2.lt k hk).1
  · by_cases hroom : n + s.size ≤ cap
    · have h1 := Lib.run_append_room_stringF (P := P) w t u ty e i ht hu hi hsize g n cap cur fz hg (by simpa using hfz) s hroom (by omega)
      rw [h1] at hr
      cases hr
      exact Or.inl hk
    · have hsmall : n + s.size ≤ 9223372036854775807 := by simp only [maxLen] at h63; omega
      have hxl : xs.length = n := by simpa using hown.1
      have h1 := Lib.run_append_grow_string (P := P) w t u ty e i (.int .u8 0) ht hu hi hz ⟨g, 0, none⟩ n cap xs (by rw [hsize]; simpa using hxl) (hown.cells (g := g) rfl) s (by omega) (by omega) (by rw [hby]; exact growslice_fits (by omega) (by omega))
      rw [h1] at hr
      cases hr
      have : w.heap.size = k := by simpa [Value.ownBlock] using hk
      omega
theorem wpList_append_text {ops : Array Oper} {rest : List Oper} {o : Oper} {a : Act} {Q : Exit → Act → World → Prop} (hgd : o.guard = none) (sl x : Operand) (t u : TypeId)
    (ho : o.op = .call { callee := .builtin .append, args := #[sl, x], argTypes := #[t, u] })
    (e : TypeId) (i : TypeInfo) (ht : P.underlying t = some (.slice e)) (hu : P.underlying u = some .string) (hi : P.info? e = some i) (hz : i.zero = some (.int .u8 0)) (hsize : i.size = 1) (hby : i.bytes = 1)
    (v : Value) (n : Nat) (xs : List Value) (hs : a.eval sl = v) (hown : w.ownsRowF 0 e 1 v n xs) (s : ByteArray) (hx : a.eval x = .string s) (hlen : n + s.size ≤ 140737488355328)
    (h : ∀ v' w', w'.ownsRowF 0 e 1 v' (n + s.size) (xs ++ Lib.strCells s) → w.grownBy w' v.ownBlock → (∀ k, v'.ownBlock = some k → v.ownBlock = some k ∨ w.heap.size ≤ k) → wpList P ops Q rest (a.put o.dst v') w') : wpList P ops Q (o :: rest) a w := by
  have h63 : n + s.size ≤ maxLen := by unfold maxLen; omega
  obtain ⟨v', w', hr, h2, h3, _⟩ := Lib.run_append_own_stringF (P := P) w 0 t u o.type e i ht hu hi hz hsize hby v n xs hown s h63 hlen (Nat.zero_le _)
  have h4 := append_where ht hu hi hz hsize hby hown h63 hlen hr
  refine wpList_plain hgd fun K hK => ?_
  unfold Oper.wp execOp
  simp only [ho, resolve, invoke, builtin, Sem.run_bind, Sem.run_pure, Result.andThen_ok, List.map_toArray, List.map_cons, List.map_nil, hs, hx, hr]
  exact hK _ _ (h v' w' h2 h3 h4)
end
set_option maxRecDepth 100000 in
/-- WriteString -/
theorem bwriteT (b : Nat) (l : List UInt8) (s : ByteArray) (w : World) (S : List Nat) (h : (bldT b l).is w S) (hlen : l.length + s.size ≤ 140737488355328) :
    Calls Tryz.prog 76 #[.pointer (some ⟨b, 0, none⟩), .string s] w fun e w' => e = .returned (.tuple #[.int .i64 s.size, .nilIface]) ∧ Leaves w w' S (bldT b (l ++ s.data.toList)) := by
  obtain ⟨p, v, h1, h2, h3, rfl⟩ := h
  have HC := Lib.hid (bcheck b w p v h1 h2)
  have H3 := Lib.hid h3
  have H2 := Lib.hid h2
  clear h1 h2 h3
  go_enter Tryz.func76, Tryz.ntmps76
  trace "A"; go_wp2_with fail
  refine HC.out.mono ?_
  rintro e w1 ⟨rfl, hb1, ho1⟩
  have hblk : ∀ k, k ∈ blocks v → k ≠ b := fun k hk e => by
    subst e
    rcases H3.out.2 with ⟨rfl, _⟩ | ⟨g, cap, cur, fz, rfl, _, hg, _⟩
    · simp [Value.ownBlock] at hk
    · have : g = k := by simpa [Value.ownBlock] using hk
      subst this
      rw [H2.out] at hg
      injection hg with hg
      injection hg with _ hg
      exact absurd hg (by decide)
  have hown : w1.ownsRowF 0 5 1 v l.length (Lib.byteCells l) := by
    refine ⟨H3.out.1, ?_⟩
    rcases H3.out.2 with hn | ⟨g, cap, cur, fz, rfl, hb, hg, rest⟩
    · exact Or.inl hn
    · exact Or.inr ⟨g, cap, cur, fz, rfl, hb, (ho1.block g (Array.getElem?_eq_some_iff.1 hg).1 (by have := hblk g (by simp [Value.ownBlock]); simpa using this)).trans hg, rest⟩
  have c1 : w1.cell? ⟨b, 1, none⟩ = some v := by simp [World.cell?, hb1]
  have lb : b < w1.heap.size := (Array.getElem?_eq_some_iff.1 hb1).1
  obtain ⟨i0, hi, hz0, hz1, hz2⟩ := info_parts extra166.infoByte
  have HOW := Lib.hid hown
  have HB1 := Lib.hid hb1
  have HO1 := Lib.hid ho1
  have HBK := Lib.hid hblk
  clear hown hb1 ho1 hblk H3 H2 HC
  trace "B"; go_wp2_with (at_builtin; refine wpList_append_text rfl _ _ 131 9 rfl 5 i0 Tryz.underlying131 Tryz.underlying9 hi hz0 hz1 hz2 _ _ _ rfl HOW.out s rfl ?c4 ?_)
  case c4 => exact hlen
  intro v' w2 hown' hgrow hwh
  have hne : v.ownBlock ≠ some b := fun e => HBK.out b (by simp [e]) rfl
  have hb2 : w2.heap[b]? = some (.cells #[.pointer (some ⟨b, 0, none⟩), v] 133 (0, 0)) := by
    rw [hgrow.block b lb (fun e => hne e.symm)]
    exact HB1.out
  have d0 : w2.cell? ⟨b, 0, none⟩ = some (.pointer (some ⟨b, 0, none⟩)) := by simp [World.cell?, hb2]
  have d1 : w2.cell? ⟨b, 1, none⟩ = some v := by simp [World.cell?, hb2]
  have f1 : w2.frozen? ⟨b, 1, none⟩ = false := by simp [World.frozen?, hb2]
  have lb2 : b < w2.heap.size := (Array.getElem?_eq_some_iff.1 hb2).1
  obtain ⟨ao, n', cap, rfl⟩ : ∃ ao n' cap, v' = .slice ao n' cap := by
    rcases hown'.2 with ⟨hv, _⟩ | ⟨g, cap, cur, fz, hv, _⟩
    · exact ⟨_, _, _, hv⟩
    · exact ⟨_, _, _, hv⟩
  have HOW2 := Lib.hid hown'
  have HGR := Lib.hid hgrow
  have HB2 := Lib.hid hb2
  have HWH := Lib.hid hwh
  have HNE := Lib.hid hne
  clear hown' hgrow hb2 hne c1 hwh
  trace "C"; go_wp2_with fail
  go_ret2
  refine ⟨rfl, b :: blocks (.slice ao n' cap), ⟨.pointer (some ⟨b, 0, none⟩), .slice ao n' cap, Or.inr rfl, ?_, ?_, rfl⟩, ?_, ?_⟩
  · simp [World.setCell, Array.getElem?_modify, HB2.out]
  · have hh := HOW2.out
    rw [byteCells_app] at hh
    have e1 : (l ++ s.data.toList).length = l.length + s.size := by rw [List.length_append, Array.length_toList]; rfl
    rw [e1]
    refine hh.kept (row := some b) ⟨rfl, rfl, rfl, by simp [World.setCell], fun k _ hk => Below.heap_setCell _ _ _ _ (fun e => hk (by rw [e]))⟩ (Or.inr (fun e => ?_))
    rcases hh.2 with ⟨he, _⟩ | ⟨g, cp, cur, fz, he, _, hg, _⟩
    · rw [he] at e; simp [Value.ownBlock] at e
    · rw [he] at e
      have : g = b := by simpa [Value.ownBlock] using e
      subst this
      rw [HB2.out] at hg
      injection hg with hg
      injection hg with _ hg
      exact absurd hg (by decide)
  · have o1 : Out w w1 (b :: blocks v) := HO1.out.mono (fun k hk => Or.inl (by rw [List.mem_singleton.1 hk]; simp))
    exact (o1.grown HGR.out (fun k hk => Or.inl (List.mem_cons_of_mem _ (by simpa [Option.mem_toList] using hk)))).put (Or.inl (by simp)) _
  · intro k hk
    rcases List.mem_cons.1 hk with rfl | hk
    · exact Or.inl (by simp)
    · rcases HWH.out k (by simpa [Option.mem_toList] using hk) with h | h
      · exact Or.inl (List.mem_cons_of_mem _ (by simpa [Option.mem_toList] using h))
      · exact Or.inr (Nat.le_trans HO1.out.size h)
end Go.Proofs.YtmfbaijbigodkaaGreatDoor

/-! A range over a function whose own state is one cell that it writes between the rounds; a round that always goes on. No condition of its own. -/
namespace Go.Proofs.YtmfbaijbigodkaaGreatDoor
open Go.RowKit
set_option linter.unusedVariables false

section
variable {F : Fence} {n : Nat} {P : Program} {α : Type}
/-- what may happen to the caller's things between two rounds -/
structure Bears (gb : Nat) (J : List α → World → Prop) : Prop where
  drew : ∀ s A, J s A → J s A.drew
  cell : ∀ s A v, J s A → J s (A.setCell ⟨gb, 0, none⟩ v)
/-- the iterator's word: it hands over the elements one by one, each round goes on and leaves its cell as it was -/
def Hands (F : Fence) (n : Nat) (P : Program) (gf gb : Nat) (lb : Array Value) (encs : α → Array Value) (S : List α → Prop) (G : List α → α → Prop) (w0 : World) : Prop :=
  ∀ (l : Nat) (J : List α → World → Prop) (W : World), Below w0.heap.size w0 W → Bears gb J →
    (∀ pre x X, J pre X → G pre x → YieldAt F (n - 1) P l (encs x) X fun e X' => e = .returned (.bool true) ∧ J (pre ++ [x]) X' ∧ ∀ v, X.cell? ⟨gb, 0, none⟩ = some v → X.frozen? ⟨gb, 0, none⟩ = false → X'.cell? ⟨gb, 0, none⟩ = some v ∧ X'.frozen? ⟨gb, 0, none⟩ = false) →
    J [] W → CallsIn F n P gf (#[.func (.yield l) #[] #[]] ++ lb) W fun e X => (∃ v, e = .returned v) ∧ ∃ xs, S xs ∧ J xs X
theorem heap_far {A : World} {gb k : Nat} {o : Obj} (v : Value) (hk : k ≠ gb) (h : A.heap[k]? = some o) : (A.setCell ⟨gb, 0, none⟩ v).heap[k]? = some o := (Below.heap_setCell A ⟨gb, 0, none⟩ v k hk).trans h
theorem putObj_cell {A : World} {l gb : Nat} {o o' : Obj} (hne : gb ≠ l) : (∀ v, A.cell? ⟨gb, 0, none⟩ = some v → (A.putObj l o').cell? ⟨gb, 0, none⟩ = some v) ∧ (A.frozen? ⟨gb, 0, none⟩ = false → (A.putObj l o').frozen? ⟨gb, 0, none⟩ = false) := by
  have e : (A.putObj l o').heap[gb]? = A.heap[gb]? := World.putObj_heap_other hne
  refine ⟨fun v hv => ?_, fun hv => ?_⟩
  · unfold World.cell? at hv ⊢
    rw [e]; exact hv
  · unfold World.frozen? at hv ⊢
    rw [e]; exact hv
/-- the statement -/
theorem rangeW {g : Operand} {ps : Array Tmp} {assign body : Code} {Q : Exit → Act → World → Prop} {a : Act} {w : World} (hro : F.round = none) (h1 : 1 ≤ n) {gf gb : Nat} {lb : Array Value} (hg : a.eval g = .func (.func gf) #[] lb) (hFg : F.fn gf)
    (eg : ∀ args w, (callFunc gf args).run P w = .ok (.enter gf args) w) {encs : α → Array Value} {S : List α → Prop} {G : List α → α → Prop} (hgb : gb < w.heap.size) (hseq : Hands F (n - 1) P gf gb lb encs S G w) (hps : ∀ x, (encs x).size = ps.size)
    (I : List α → World → Prop) (hI : OwnFrom w.heap.size I) (hIb : Bears gb I) (h0 : I [] w) (a1 : α → Act)
    (hassign : ∀ (l : Nat) (x : α) (W : World) (K : Act → World → Prop), K (a1 x) W → assign.wpIn (F.inRound l) (n - 1 - 1) P (Exit.then K (fun _ _ _ => False)) { tmps := (ps.zip (encs x)).foldl (fun t (p, v) => t.setIfInBounds p v) a.tmps, defers := [] } W)
    (hbody : ∀ (l : Nat) (pre : List α) (x : α) (W : World), I pre W → G pre x → body.wpIn (F.inRound l) (n - 1 - 1) P (fun e _ X => e = .normal ∧ KeepsOthers W X ∧ I (pre ++ [x]) X ∧ ∀ v, W.cell? ⟨gb, 0, none⟩ = some v → W.frozen? ⟨gb, 0, none⟩ = false → X.cell? ⟨gb, 0, none⟩ = some v ∧ X.frozen? ⟨gb, 0, none⟩ = false) (a1 x) W)
    (hdone : ∀ (D : Nat) (xs : List α) (W : World), w.heap.size ≤ D → S xs → I xs W → W.heap[D]? = some (.deferred (some [])) → Q .normal { a with defers := { target := .collected D, args := #[] } :: a.defers } W) :
    (Code.rangeFunc g ps assign body).wpIn F n P Q a w := by
  refine wpIn_rangeFunc fun fn hfn => ?_
  rw [hro]
  obtain ⟨rc, hrc⟩ : ∃ rc : LoopState → Loop, rc = fun st => { state := st, pending := none, fn, tmps := a.tmps, params := ps, assign, body, defers := w.heap.size } := ⟨_, rfl⟩
  obtain ⟨W1, hW1⟩ : ∃ W1, (w.alloc (.deferred (some []))).alloc (.loop (rc .ready)) = W1 := ⟨_, rfl⟩
  have b1 : W1.heap[w.heap.size + 1]? = some (.loop (rc .ready)) := by
    rw [← hW1]
    have := World.alloc_heap_new (w.alloc (.deferred (some []))) (.loop (rc .ready))
    rwa [World.size_alloc] at this
  have b2 : W1.heap[w.heap.size]? = some (.deferred (some [])) := by
    rw [← hW1]
    exact (Below.heap_alloc _ _ _ (by simp)).trans (World.alloc_heap_new w _)
  have i1 : I [] W1 := by rw [← hW1]; exact hI.alloc _ (hI.alloc _ h0)
  have s1 : Below w.heap.size w W1 := by
    rw [← hW1]
    exact ((Below.refl _ w).alloc (Nat.le_refl _) _).alloc (by simp) _
  have key := hseq (w.heap.size + 1) (fun pre X => I pre X ∧ X.heap[w.heap.size + 1]? = some (.loop (rc .ready)) ∧ X.heap[w.heap.size]? = some (.deferred (some []))) W1 s1
    ⟨fun s A h => ⟨hIb.drew s A h.1, h.2.1, h.2.2⟩, fun s A v h => ⟨hIb.cell s A v h.1, heap_far v (by omega) h.2.1, heap_far v (by omega) h.2.2⟩⟩ ?_ ⟨i1, b1, b2⟩
  · refine ⟨w.heap.size + 1, [{ target := .collected w.heap.size, args := #[] }], W1, { target := .fn (.func gf) lb, args := #[.func (.yield (w.heap.size + 1)) #[] #[]] }, W1, gf, _, W1, ?_, ?_, ?_, ?_, fun _ => h1, key.mono ?_⟩
    · rw [← hW1, hrc]; exact run_enterLoop_outer _ _ _ _ _
    · simp only [resolve, hg]
      simp [go_sem]
    · intro f' hf'
      simp [Target.leads] at hf'
      subst hf'
      exact hFg
    · simp [invoke, go_sem, eg]
    · rintro e X ⟨⟨v, rfl⟩, xs, hS, hi, hl, hk⟩
      refine ⟨none, _, by have := run_endLoop (P := P) hl (by rw [hrc]; simp); rw [hrc] at this; exact this, ?_⟩
      exact hdone _ xs _ (Nat.le_refl _) hS (hI.putObj _ hi (by omega) hl rfl) ((World.putObj_heap_other (by omega)).trans hk)
  · rintro pre x X ⟨hi, hl, hk⟩ hlen
    have hlt : w.heap.size + 1 < X.heap.size := (Array.getElem?_eq_some_iff.1 hl).1
    have hy := run_yield (P := P) (args := encs x) hl (by rw [hrc]; exact hps x)
    rw [hrc] at hy
    refine ⟨fn, _, assign, body, hy, roundIn_of_wpIn hfn (hassign _ x X _ ⟨_, run_beginRound hl (by rw [hrc]), ?_⟩)⟩
    obtain ⟨Y, hY⟩ : ∃ Y, X.putObj (w.heap.size + 1) (.loop { rc .ready with state := .busy }) = Y := ⟨_, rfl⟩
    have y1 : Y.heap[w.heap.size + 1]? = some (.loop { rc .ready with state := .busy }) := by rw [← hY]; exact World.putObj_heap_same hlt
    have y2 : Y.heap[w.heap.size]? = some (.deferred (some [])) := by rw [← hY]; exact (World.putObj_heap_other (by omega)).trans hk
    have y3 : I pre Y := by rw [← hY]; exact hI.putObj _ hi (by omega) hl rfl
    have y4 := putObj_cell (A := X) (l := w.heap.size + 1) (gb := gb) (o := .loop (rc .ready)) (o' := .loop { rc .ready with state := .busy }) (by omega)
    rw [hY] at y4
    rw [hY]
    refine wpIn_mono (hbody _ pre x Y y3 hlen) ?_
    rintro e a3 Z ⟨rfl, k1, k2, k3⟩
    have z1 := k1.same _ _ y1 rfl
    have z2 := k1.same _ _ y2 rfl
    have hr := run_endRound (P := P) none z1
    refine ⟨_, _, hr, rfl, ⟨hI.putObj _ k2 (by omega) z1 rfl, ?_, (World.putObj_heap_other (by omega)).trans z2⟩, fun v hv hf => ?_⟩
    · rw [World.putObj_heap_same (Array.getElem?_eq_some_iff.1 z1).1]
      rw [hrc]
      rfl
    · obtain ⟨c1, c2⟩ := k3 v (y4.1 v hv) (y4.2 hf)
      have z4 := putObj_cell (A := Z) (l := w.heap.size + 1) (gb := gb) (o := .loop (rc .ready)) (o' := .loop { rc .ready with state := .ready }) (by omega)
      exact ⟨(putObj_cell (A := Z) (l := w.heap.size + 1) (gb := gb) (o := .loop (rc .ready)) (o' := _) (by omega)).1 v c1, (putObj_cell (A := Z) (l := w.heap.size + 1) (gb := gb) (o := .loop (rc .ready)) (o' := _) (by omega)).2 c2⟩
end
end Go.Proofs.YtmfbaijbigodkaaGreatDoor

/-! strings.Lines over whole records, as an iterator. Condition: the text is records one behind the other. -/
namespace Go.Proofs.YtmfbaijbigodkaaGreatDoor
open Go.ChangeShapes Go.WideShapes Go.ChangeAt Go.RowKit Go.Shelf
set_option linter.unusedVariables false
attribute [local go_sem] Oper.semAt_some

theorem cut_list (s : ByteArray) (a b : Nat) : (s.extract a b).data.toList = (s.data.toList.take b).drop a := by
  rw [ByteArray.data_extract, Array.toList_extract]
  rw [List.extract_eq_take_drop, List.drop_take]
def boxLen (gb : Nat) (w : World) : Nat := match w.cell? ⟨gb, 0, none⟩ with | some (.string b) => b.size | _ => 0
theorem cell_box {w : World} {gb : Nat} {v u : Value} (h : w.cell? ⟨gb, 0, none⟩ = some v) : (w.setCell ⟨gb, 0, none⟩ u).drew.cell? ⟨gb, 0, none⟩ = some u := World.cell?_setCell_same' w _ u (by rw [h]; rfl)
theorem frozen_box {w : World} {gb : Nat} {v u : Value} (h : w.cell? ⟨gb, 0, none⟩ = some v) (hf : w.frozen? ⟨gb, 0, none⟩ = false) : (w.setCell ⟨gb, 0, none⟩ u).drew.frozen? ⟨gb, 0, none⟩ = false := by
  show (w.setCell ⟨gb, 0, none⟩ u).frozen? ⟨gb, 0, none⟩ = false
  rw [World.frozen?_setCell]
  exact hf
theorem str_of {l : List UInt8} : (⟨l.toArray⟩ : ByteArray).size = l.length := by show l.toArray.size = _; rw [List.size_toArray]
end Go.Proofs.YtmfbaijbigodkaaGreatDoor

/-! strings.Lines over any text, as an iterator; the lines of a text in plain words. Condition: the text is no longer than a million bytes. -/
namespace Go.Proofs.YtmfbaijbigodkaaGreatDoor
open Go.ChangeShapes Go.WideShapes Go.ChangeAt Go.RowKit Go.Shelf
set_option linter.unusedVariables false
attribute [local go_sem] Oper.semAt_some

/-- the lines of a text, each with its end -/
def linesOf : List UInt8 → List (List UInt8)
  | [] => []
  | b :: r => if b = 10 then [10] :: linesOf r else match linesOf r with
    | [] => [[b]]
    | l :: ls => (b :: l) :: ls
/-- lines: each but the last has its end -/
def LnOk : List (List UInt8) → Prop
  | [] => True
  | x :: r => ((∃ l, noNl l ∧ x = l ++ [10]) ∨ (noNl x ∧ x ≠ [] ∧ r = [])) ∧ LnOk r
theorem linesOf_flat : ∀ t : List UInt8, (linesOf t).flatten = t
  | [] => rfl
  | b :: r => by
    have ih := linesOf_flat r
    rw [linesOf]
    split
    · rename_i h
      rw [List.flatten_cons, ih, h]; rfl
    · cases hl : linesOf r with
      | nil => rw [hl] at ih; simp at ih; subst ih; rfl
      | cons l ls => rw [hl] at ih; simp only [List.flatten_cons] at ih ⊢; rw [List.cons_append, ih]
theorem linesOf_ok : ∀ t : List UInt8, LnOk (linesOf t)
  | [] => trivial
  | b :: r => by
    have ih := linesOf_ok r
    rw [linesOf]
    split
    · exact ⟨Or.inl ⟨[], by intro c hc; simp at hc, rfl⟩, ih⟩
    · rename_i hb
      cases hl : linesOf r with
      | nil => exact ⟨Or.inr ⟨by intro c hc; rw [List.mem_singleton.1 hc]; exact hb, by simp, rfl⟩, trivial⟩
      | cons l ls =>
        rw [hl] at ih
        refine ⟨?_, ih.2⟩
        rcases ih.1 with ⟨m, h1, h2⟩ | ⟨h1, h2, h3⟩
        · exact Or.inl ⟨b :: m, by
            intro c hc
            rcases List.mem_cons.1 hc with rfl | hc
            · exact hb
            · exact h1 c hc, by rw [h2]; rfl⟩
        · exact Or.inr ⟨by
            intro c hc
            rcases List.mem_cons.1 hc with rfl | hc
            · exact hb
            · exact h1 c hc, by simp, h3⟩
theorem index_none : ∀ (l : List UInt8), noNl l → Lib.indexByte l 10 = -1
  | [], _ => rfl
  | b :: l, h => by
    have hb : (b == 10) = false := by simpa using h b (by simp)
    have ih := index_none l (fun c hc => h c (by simp [hc]))
    rw [Lib.indexByte, hb, ih]
    rfl
/-- what comes behind these lines -/
def nextLn (L pre : List (List UInt8)) (x : List UInt8) : Prop := ∃ k, k < L.length ∧ pre = L.take k ∧ x = L.getD k []
def lnv (x : List UInt8) : Value := .string ⟨x.toArray⟩
theorem LnOk.drop {L : List (List UInt8)} (h : LnOk L) : ∀ k, LnOk (L.drop k) := by
  induction L with
  | nil => intro k; simp [LnOk]
  | cons x r ih =>
    intro k
    cases k with
    | zero => exact h
    | succ k => exact ih h.2 k
theorem bytes_size {l : List UInt8} {B : ByteArray} (h : B.data.toList = l) : B.size = l.length := by
  show B.data.size = _
  rw [← Array.length_toList, h]
theorem bytes_cut {B : ByteArray} {x r : List UInt8} (h : B.data.toList = x ++ r) : B.extract 0 x.length = ⟨x.toArray⟩ ∧ B.extract x.length B.size = ⟨r.toArray⟩ := by
  have hs := bytes_size h
  rw [List.length_append] at hs
  constructor
  · apply ByteArray.ext
    apply Array.ext'
    rw [cut_list, h, List.drop_zero, List.take_append_of_le_length (Nat.le_refl _), List.take_length]
  · apply ByteArray.ext
    apply Array.ext'
    rw [cut_list, h, hs, List.take_of_length_le (by rw [List.length_append]; exact Nat.le_refl _), List.drop_left]
set_option maxRecDepth 100000 in
set_option maxHeartbeats 2000000 in
theorem linesA_in (n : Nat) (hn : 1 ≤ n) (gb : Nat) (L : List (List UInt8)) (h0 : LnOk L) (hb : L.flatten.length ≤ 1000000) (l : Nat) (J : List (List UInt8) → World → Prop) (W : World) (hJ : Bears gb J)
    (hY : ∀ pre x X, J pre X → nextLn L pre x → YieldAt Fence.wide (n - 1) Tryz.prog l #[lnv x] X fun e X' => e = .returned (.bool true) ∧ J (pre ++ [x]) X' ∧ ∀ v, X.cell? ⟨gb, 0, none⟩ = some v → X.frozen? ⟨gb, 0, none⟩ = false → X'.cell? ⟨gb, 0, none⟩ = some v ∧ X'.frozen? ⟨gb, 0, none⟩ = false)
    (hc : W.cell? ⟨gb, 0, none⟩ = some (.string ⟨L.flatten.toArray⟩)) (hf : W.frozen? ⟨gb, 0, none⟩ = false) (hj : J [] W) :
    CallsIn Fence.wide n Tryz.prog 111 #[.func (.yield l) #[] #[], .pointer (some ⟨gb, 0, none⟩)] W fun e X => (∃ v, e = .returned v) ∧ J L X := by
  have HY := Lib.hid hY
  have HJ := Lib.hid hJ
  have HN := Lib.hid h0
  clear hY hJ h0
  refine callsIn_of_wp Tryz.func111 rfl trivial ?_ rfl
  simp only [Tryz.ntmps111, List.size_toArray, List.length_cons, List.length_nil, Nat.reduceAdd, Nat.reduceSub, Array.replicate_succ, Array.replicate_zero, List.push_toArray, List.append_toArray, List.nil_append, List.cons_append]
  gi_wp2
  gi_loopw [3] (fun s3 wr => ∃ k : Nat, k ≤ L.length ∧ J (L.take k) wr ∧ wr.cell? ⟨gb, 0, none⟩ = some (.string ⟨(L.drop k).flatten.toArray⟩) ∧ wr.frozen? ⟨gb, 0, none⟩ = false) (fun _ wr => boxLen gb wr)
  case atStart => exact ⟨0, Nat.zero_le _, hj, hc, hf⟩
  case round =>
    obtain ⟨k, hk, hJk, hck, hfk⟩ := hrel
    have HJK := Lib.hid hJk
    have HCK := Lib.hid hck
    clear hJk hj hc hf
    by_cases hlt : k < L.length
    case neg =>
      have e : L.drop k = [] := List.drop_eq_nil_of_le (by omega)
      rw [e] at hck
      have e2 : (⟨([] : List (List UInt8)).flatten.toArray⟩ : ByteArray) = ⟨#[]⟩ := rfl
      rw [e2] at hck
      have HJ2 : Hid (J L wr) := Lib.hid (by have := HJK.out; rw [List.take_of_length_le (by omega)] at this; exact this)
      clear e e2 HCK HJK
      trace "A"; gi_wp2
      go_end0
      exact ⟨⟨_, rfl⟩, HJ2.out⟩
    obtain ⟨x, hx⟩ : ∃ x, L[k] = x := ⟨_, rfl⟩
    have ed : L.drop k = x :: L.drop (k + 1) := by rw [← hx]; exact List.drop_eq_getElem_cons hlt
    have et : L.take (k + 1) = L.take k ++ [x] := by rw [← hx]; exact List.take_succ_eq_append_getElem hlt
    have hxo := HN.out.drop k
    rw [ed] at hxo
    obtain ⟨hx1, -⟩ := hxo
    obtain ⟨B, hB⟩ : ∃ B : ByteArray, (⟨(L.drop k).flatten.toArray⟩ : ByteArray) = B := ⟨_, rfl⟩
    obtain ⟨D, hD⟩ : ∃ D, L.drop (k + 1) = D := ⟨_, rfl⟩
    rw [hD] at hx1 ed
    have eB : B.data.toList = x ++ D.flatten := by rw [← hB, ed]; simp
    have hsz := bytes_size eB
    rw [List.length_append] at hsz
    have hz2 : B.size ≤ 1000000 := by
      have h1 : L.flatten.length = (L.take k).flatten.length + (L.drop k).flatten.length := by rw [← List.length_append, ← List.flatten_append, List.take_append_drop]
      have h2 : B.size = (L.drop k).flatten.length := by rw [← hB]; exact str_of
      omega
    have hx0 : 0 < x.length := by
      rcases hx1 with ⟨m, _, rfl⟩ | ⟨_, h2, _⟩
      · simp
      · exact List.length_pos_iff.2 h2
    obtain ⟨x1, x2⟩ := bytes_cut eB
    have HX1 := Lib.hid x1
    have HX2 := Lib.hid x2
    have HET := Lib.hid et
    have HDD := Lib.hid hD
    have HXX : Hid (x = L.getD k []) := Lib.hid (by rw [← hx]; simp [List.getD, List.getElem?_eq_getElem hlt])
    rw [hB] at hck HCK
    have hpos : (0 : Int) < (B.size : Int) := by omega
    have HLT := Lib.hid hlt
    have HHZ := Lib.hid hsz
    have hlb : boxLen gb wr = B.size := by unfold boxLen; rw [hck]
    have HLB := Lib.hid hlb
    have HEB := Lib.hid eB
    rcases hx1 with ⟨m, hm, rfl⟩ | ⟨hno, -, hD0⟩
    · have hix : Lib.indexByte B.data.toList ((10 : Int).toNat.toUInt8) = (m.length : Int) := by
        rw [HEB.out, List.append_assoc]
        exact index_at m D.flatten hm
      rw [List.length_append, List.length_singleton] at x1 x2 hsz
      rw [List.length_append, List.length_singleton] at HX1 HX2
      obtain ⟨q, hq⟩ : ∃ q, m.length = q := ⟨_, rfl⟩
      rw [hq] at hix hsz HX1 HX2
      have hm1 : (q : Int) + 1 ≤ (B.size : Int) := by omega
      have hm0 : (0 : Int) ≤ (q : Int) := by omega
      have hto : ((q : Int) + 1).toNat = q + 1 := by omega
      have HIX := Lib.hid hix
      clear hx ed et hB hD eB hix x1 x2 hsz hlt hq hx0 hlb hm
      trace "B"; gi_wp2_with (refine ⟨trivial, ?_⟩; gi_at_call 112; refine (callsIn_wide.2 (Tryz.strings_IndexByte B 10 _)).mono ?_; rintro e w' ⟨rfl, rfl⟩; rw [HIX.out])
      trace "C"; gi_region
      have hlen : nextLn L (L.take k) (m ++ [10]) := ⟨k, HLT.out, rfl, HXX.out⟩
      have hJX : J (L.take k) (w'.setCell ⟨gb, 0, none⟩ (.string (B.extract (q + 1) B.size))).drew := HJ.out.drew _ _ (HJ.out.cell _ _ _ HJK.out)
      have hY := HY.out (L.take k) (m ++ [10]) _ hJX hlen
      have b0 : (w'.setCell ⟨gb, 0, none⟩ (.string (B.extract (q + 1) B.size))).drew.cell? ⟨gb, 0, none⟩ = some (.string (B.extract (q + 1) B.size)) := cell_box hck
      have f0 : (w'.setCell ⟨gb, 0, none⟩ (.string (B.extract (q + 1) B.size))).drew.frozen? ⟨gb, 0, none⟩ = false := frozen_box hck hfk
      have HB0 := Lib.hid b0
      have HF0 := Lib.hid f0
      have hxv : lnv (m ++ [10]) = .string (B.extract 0 (q + 1)) := by rw [HX1.out]; rfl
      rw [hxv] at hY
      obtain ⟨fn, tmps, assign, body, hy, hR⟩ := hY
      have HR := Lib.hid hR
      clear hR hlen hJX b0 f0 hck hfk
      trace "D"; gi_wp2
      trace "E"; refine HR.out.mono ?_
      rintro e W3 ⟨rfl, hJ3, hk3⟩
      obtain ⟨c3, f3⟩ := hk3 _ HB0.out HF0.out
      rw [HX2.out] at c3
      have HJ3 := Lib.hid hJ3
      have HC3 := Lib.hid c3
      have HF3 := Lib.hid f3
      clear hJ3 hk3 c3 f3
      trace "F"; gi_wp2
      go_roundw
      case rel => exact ⟨k + 1, HLT.out, by rw [HET.out]; exact HJ3.out, by rw [HDD.out]; exact HC3.out, HF3.out⟩
      case measure =>
        have h1 : boxLen gb W3 = D.flatten.length := by unfold boxLen; rw [HC3.out]; exact str_of
        rw [h1, HLB.out, HHZ.out, List.length_append]
        simp
    · subst hD0
      have hix : Lib.indexByte B.data.toList ((10 : Int).toNat.toUInt8) = -1 := by
        rw [HEB.out, List.flatten_nil, List.append_nil]
        exact index_none x hno
      have hwh : B = ⟨x.toArray⟩ := by
        apply ByteArray.ext
        apply Array.ext'
        rw [HEB.out, List.flatten_nil, List.append_nil]
      have HWHO := Lib.hid hwh
      have HIX := Lib.hid hix
      clear hx ed et hB hD eB hix x1 x2 hsz hlt hx0 hlb hno hwh HX1 HX2
      trace "G"; gi_wp2_with (refine ⟨trivial, ?_⟩; gi_at_call 112; refine (callsIn_wide.2 (Tryz.strings_IndexByte B 10 _)).mono ?_; rintro e w' ⟨rfl, rfl⟩; rw [HIX.out])
      have hlen : nextLn L (L.take k) x := ⟨k, HLT.out, rfl, HXX.out⟩
      have hJX : J (L.take k) (w'.setCell ⟨gb, 0, none⟩ (.string ⟨#[]⟩)) := HJ.out.cell _ _ _ HJK.out
      have hY := HY.out (L.take k) x _ hJX hlen
      have b0 : (w'.setCell ⟨gb, 0, none⟩ (.string ⟨#[]⟩)).cell? ⟨gb, 0, none⟩ = some (.string ⟨#[]⟩) := cell_box hck
      have f0 : (w'.setCell ⟨gb, 0, none⟩ (.string ⟨#[]⟩)).frozen? ⟨gb, 0, none⟩ = false := frozen_box hck hfk
      have HB0 := Lib.hid b0
      have HF0 := Lib.hid f0
      have hxv : lnv x = .string B := by rw [HWHO.out]; rfl
      rw [hxv] at hY
      obtain ⟨fn, tmps, assign, body, hy, hR⟩ := hY
      have HR := Lib.hid hR
      clear hR hlen hJX b0 f0 hck hfk
      trace "I"; gi_wp2
      trace "J"; rw [hy]
      gi_wp2
      refine HR.out.mono ?_
      rintro e W3 ⟨rfl, hJ3, hk3⟩
      obtain ⟨c3, f3⟩ := hk3 _ HB0.out HF0.out
      have HJ3 := Lib.hid hJ3
      have HC3 := Lib.hid c3
      have HF3 := Lib.hid f3
      clear hJ3 hk3 c3 f3
      trace "K"; gi_wp2
      go_roundw
      case rel => exact ⟨k + 1, HLT.out, by rw [HET.out]; exact HJ3.out, by rw [HDD.out]; exact HC3.out, HF3.out⟩
      case measure =>
        have h1 : boxLen gb W3 = 0 := by unfold boxLen; rw [HC3.out]; rfl
        rw [h1, HLB.out]
        omega
end Go.Proofs.YtmfbaijbigodkaaGreatDoor

/-! How few packets a session makes, how short its answers are; and what lies in memory between two lines of it. Condition: the tables hold what the program's text lays. -/
namespace Go.Proofs.YtmfbaijbigodkaaGreatDoor
open Go.ChangeShapes Go.WideShapes Go.ChangeAt Go.RowKit Go.Shelf
set_option linter.unusedVariables false

theorem made_write (s : EnS) (d : ByteArray) : (s.write d).made = s.made := by unfold EnS.write; split <;> rfl
theorem made_read (s : EnS) (n : Int) : (s.read n).made = s.made := by unfold EnS.read; split <;> rfl
theorem made_take (s : EnS) (b : List UInt8) : (s.take b).made = s.made := by
  unfold EnS.take
  split
  · unfold EnS.pkt
    split
    · rfl
    · split
      · split
        · exact takes_made _ _
        · rfl
      · rfl
  · rfl
theorem made_make (s : EnS) : s.make.made.length = s.made.length + 1 := by unfold EnS.make; simp
theorem Few.up {s : TkS} {k j : Nat} (h : Few s k) (hj : k ≤ j) : Few s j := ⟨Nat.le_trans h.1 hj, Nat.le_trans h.2 hj⟩
theorem Few.set {s : TkS} {k : Nat} (h : Few s k) (who : Int) {x : EnS} (hx : x.made.length ≤ k) : Few (s.set who x) k := by
  unfold TkS.set
  split
  · exact ⟨hx, h.2⟩
  · exact ⟨h.1, hx⟩
theorem Few.write {s : TkS} {k : Nat} (h : Few s k) (who : Int) (d : ByteArray) : Few (s.write who d) k := by
  unfold TkS.write
  split
  · exact h.set who (by rw [made_write]; exact h.of who)
  · exact h
theorem Few.read {s : TkS} {k : Nat} (h : Few s k) (who n : Int) : Few (s.read who n) k := by
  unfold TkS.read
  split
  · exact h.set who (by rw [made_read]; exact h.of who)
  · exact h
theorem Few.send {s : TkS} {k : Nat} (h : Few s k) (who : Int) : Few (s.send who) (k + 1) := by
  unfold TkS.send
  split
  · have := (h.up (Nat.le_succ k)).set who (x := (s.e who).make) (by rw [made_make]; have := h.of who; omega)
    exact ⟨this.1, this.2⟩
  · exact h.up (Nat.le_succ _)
theorem Few.come {s : TkS} {k : Nat} (h : Few s k) (i : Int) : Few (s.come i) k := by
  unfold TkS.come
  split
  · have := h.set (giveD s.L i).too (x := (s.e (giveD s.L i).too).take (giveD s.L i).b.data.toList) (by rw [made_take]; exact h.of _)
    exact ⟨this.1, this.2⟩
  · exact h
theorem few_do {s : TkS} {k : Nat} (h : Few s k) (x : List UInt8) (ns : List Nat) (d : List UInt8) : Few (doW s x ns d).2.2 (k + (if x = wSend then 1 else 0)) := by
  unfold doW
  by_cases h1 : x = wWrite
  · rw [if_pos h1]; exact (h.write _ _).up (Nat.le_add_right _ _)
  rw [if_neg h1]
  by_cases h2 : x = wSend
  · rw [if_pos h2, if_pos h2]; exact h.send _
  rw [if_neg h2, if_neg h2]
  by_cases h3 : x = wCome
  · rw [if_pos h3]; exact h.come _
  rw [if_neg h3]
  by_cases h4 : x = wLose
  · rw [if_pos h4]; exact ⟨h.1, h.2⟩
  rw [if_neg h4]
  by_cases h5 : x = wTwice
  · rw [if_pos h5]; exact ⟨h.1, h.2⟩
  rw [if_neg h5]
  by_cases h6 : x = wRead
  · rw [if_pos h6]; exact h.read _ _
  rw [if_neg h6]
  by_cases h7 : x = wVarint
  · rw [if_pos h7]; exact h
  rw [if_neg h7]
  by_cases h8 : x = wNeed
  · rw [if_pos h8]; exact h
  rw [if_neg h8]; exact h
theorem parse_word {ws : List (List UInt8)} {x : List UInt8} {ns : List Nat} {d : List UInt8} (h : parse ws = some (x, ns, d)) : x ∈ ws ∧ manyOf x = some ns.length ∧ (∀ n ∈ ns, n ≤ 9999) := by
  cases ws with
  | nil => cases h
  | cons k r =>
    by_cases hk : k = wWrite
    · subst hk
      rw [parse_write] at h
      split at h
      · rename_i a dd
        split at h
        · cases h
        · split at h
          · cases h
          · rename_i n hn
            cases h
            exact ⟨by simp, rfl, fun m hm => by
              rw [List.mem_singleton.1 hm]
              exact (dg_yes hn).2.2.2.2⟩
      · cases h
    · rw [parse_other hk] at h
      split at h
      · cases h
      · rename_i m hm
        split at h
        · cases h
        · rename_i ms hms
          split at h
          · rename_i hl
            cases h
            exact ⟨by simp, by rw [hm, hl], nums_max hms⟩
          · cases h
/-- how many lines have four bytes and more -/
def fours (L : List (List UInt8)) : Nat := (L.filter fun l => decide (4 ≤ l.length)).length
theorem few_ans {s : TkS} {k : Nat} (h : Few s k) (l : List UInt8) : Few (ans s l).2 (k + (if 4 ≤ l.length then 1 else 0)) := by
  unfold ans ansW
  cases hp : parse (cutAt 32 l) with
  | none => exact h.up (Nat.le_add_right _ _)
  | some t =>
    obtain ⟨x, ns, d⟩ := t
    refine (few_do h x ns d).up ?_
    by_cases hx : x = wSend
    · have hm := (cutAt_each (c := 32) (l := l) x (parse_word hp).1).2
      rw [hx] at hm
      have : wSend.length = 4 := rfl
      rw [if_pos hx, if_pos (by omega)]
      exact Nat.le_refl _
    · rw [if_neg hx]; omega
theorem few_behind : ∀ (L : List (List UInt8)) {s : TkS} {k : Nat}, Few s k → Few (behind s L) (k + fours L)
  | [], s, k, h => h
  | l :: r, s, k, h => by
    have := few_behind r (few_ans h l)
    refine this.up ?_
    unfold fours
    rw [List.filter_cons]
    split
    · rename_i h4
      rw [if_pos (by simpa using h4), List.length_cons]
      omega
    · rename_i h4
      rw [if_neg (by simpa using h4)]
      omega
theorem fours_few : ∀ (L : List (List UInt8)), 4 * fours L ≤ L.flatten.length
  | [] => Nat.le_refl _
  | l :: r => by
    have ih := fours_few r
    unfold fours at ih ⊢
    rw [List.filter_cons, List.flatten_cons, List.length_append]
    split
    · rename_i h4
      have : 4 ≤ l.length := by simpa using h4
      rw [List.length_cons]; omega
    · omega
theorem itoa_few {n : Int} (h0 : 0 ≤ n) (h1 : n ≤ 1073741823) : (Lib.itoa n).length ≤ 10 := by
  have h := ita_size h0 h1
  have e : (ita n).size = (Lib.itoa n).length := by show (Lib.itoa n).toArray.size = _; simp
  omega
theorem name_few (e : Int) : (eName e).size ≤ 10 := by
  unfold eName
  repeat (first | (split; exact (by decide)) | exact (by decide))
theorem read_few {s : EnS} (h : EnOk s) (n : Int) : (s.readS n).size ≤ 60 := by
  unfold EnS.readS
  split
  · exact Nat.zero_le _
  · rw [size_of, cutL_len]
    have := (h.readOk n).2
    omega
theorem ans_few {s : TkS} (h0 : EnOk s.e0) (h1 : EnOk s.e1) (h2 : s.L.length ≤ 40) (l : List UInt8) : (ans s l).1.size ≤ 100 := by
  unfold ans ansW
  cases hp : parse (cutAt 32 l) with
  | none => exact (by decide : bBad.size ≤ 100)
  | some t =>
    obtain ⟨x, ns, d⟩ := t
    obtain ⟨_, hm, hn⟩ := parse_word hp
    show (if (doW s x ns d).2.1 = 0 then (doW s x ns d).1 else eName (doW s x ns d).2.1).size ≤ 100
    split
    · have hr : ∀ a b : Int, (if s.readS a b = ⟨#[]⟩ then bDash else s.readS a b).size ≤ 100 := fun a b => by
        split
        · exact (by decide)
        · unfold TkS.readS
          split
          · unfold TkS.e
            split
            · have := read_few h0 b; omega
            · have := read_few h1 b; omega
          · exact Nat.zero_le _
      have hd : ∀ (i : Nat), (ns.getD i 0) ≤ 9999 := fun i => by
        rcases Nat.lt_or_ge i ns.length with h | h
        · have := hn _ (List.getElem_mem h)
          simpa [List.getD, List.getElem?_eq_getElem h] using this
        · simp [List.getD, List.getElem?_eq_none h]
      rcases many_cases hm with ⟨_, h⟩ | ⟨_, h⟩ | ⟨_, h⟩
      · rcases h with rfl | rfl | rfl | rfl | rfl | rfl
        · exact (by decide : bOk.size ≤ 100)
        · exact (by decide : bOk.size ≤ 100)
        · exact (by decide : bOk.size ≤ 100)
        · exact (by decide : bOk.size ≤ 100)
        · exact (by decide : bOk.size ≤ 100)
        · show (⟨(tells (vbytes (ns.getD 0 0 : Nat))).toArray⟩ : ByteArray).size ≤ 100
          rw [size_of]
          have h1 := tells_few (vbytes (ns.getD 0 0 : Nat))
          have h2 := vbytes_length (ns.getD 0 0 : Nat)
          have h3 : longN ((ns.getD 0 0 : Nat) : Int) ≤ 4 := by unfold longN; omega
          omega
      · rcases h with rfl | rfl
        · exact hr _ _
        · show (⟨(Lib.itoa (needV (ns.getD 0 0 : Nat) (ns.getD 1 0 : Nat))).toArray⟩ : ByteArray).size ≤ 100
          rw [size_of]
          have hv : 0 ≤ needV (ns.getD 0 0 : Nat) (ns.getD 1 0 : Nat) ∧ needV (ns.getD 0 0 : Nat) (ns.getD 1 0 : Nat) ≤ 4 := by
            unfold needV
            split
            · have := leastN_bounds ((ns.getD 0 0 : Nat) - (ns.getD 1 0 : Nat) : Int); omega
            · omega
          have := itoa_few hv.1 (by omega)
          omega
      · subst h
        show (⟨(Lib.itoa (s.L.length : Int)).toArray⟩ : ByteArray).size ≤ 100
        rw [size_of]
        have := itoa_few (n := (s.L.length : Int)) (by omega) (by omega)
        omega
    · have := name_few (doW s x ns d).2.1
      omega
theorem talk_ok {w : World} {S : List Nat} {g : Nat} {s : TkS} (h : (talkT g s).is w S) : s.L.length ≤ 40 ∧ EnOk s.e0 ∧ EnOk s.e1 := by
  obtain ⟨p, ok, ho⟩ := talkT_open h
  obtain ⟨S2, hS2, _⟩ := ho.at_ 2 rfl
  obtain ⟨S3, hS3, _⟩ := ho.at_ 3 rfl
  obtain ⟨q2, h2⟩ := endT_open hS2
  obtain ⟨q3, h3⟩ := endT_open hS3
  exact ⟨ok.1, h2.ok, h3.ok⟩
/-- between two lines: the talk, the builder and the desk lie apart, in rows of cells; gb is another block -/
structure RunI (w0 : World) (gx b gb g : Nat) (s : TkS) (t : List UInt8) (W : World) : Prop where
  since : Since w0 W
  bx : BlockIs W gx 129 #[.pointer (some ⟨g, 0, none⟩)]
  hx : w0.heap.size ≤ gx ∧ w0.heap.size ≤ gb ∧ gb ≠ gx ∧ gb < W.heap.size
  ex : ∃ S SB : List Nat, (talkT g s).is W S ∧ (bldT b t).is W SB ∧ (∀ k, k ∈ S → w0.heap.size ≤ k ∧ k ≠ gx ∧ k ≠ gb ∧ k ∉ SB ∧ CellsAt W k) ∧ ∀ k, k ∈ SB → w0.heap.size ≤ k ∧ k ≠ gx ∧ k ≠ gb ∧ CellsAt W k
theorem CellsAt.out {W W' : World} {Q : List Nat} {k : Nat} (h : CellsAt W k) (ho : Out W W' Q) (hk : k ∉ Q) : CellsAt W' k := by
  obtain ⟨o, h1, h2⟩ := h
  exact ⟨o, (ho.block k (Array.getElem?_eq_some_iff.1 h1).1 hk).trans h1, h2⟩
theorem RunI.out {w0 W W' : World} {gx b gb g : Nat} {s : TkS} {t : List UInt8} {Q : List Nat} (h : RunI w0 gx b gb g s t W) (ho : Out W W' Q) (hQ : ∀ k, k ∈ Q → w0.heap.size ≤ k ∧ (k = gb ∨ ¬ CellsAt W k)) : RunI w0 gx b gb g s t W' := by
  obtain ⟨S, SB, h1, h2, h3, h4⟩ := h.ex
  have hgx : gx ∉ Q := fun hm => by
    rcases (hQ gx hm).2 with e | e
    · exact h.hx.2.2.1 e.symm
    · exact e (cells_block h.bx)
  have hS : ∀ k, k ∈ S → k ∉ Q := fun k hk hm => by
    rcases (hQ k hm).2 with e | e
    · exact (h3 k hk).2.2.1 e
    · exact e (h3 k hk).2.2.2.2
  have hB : ∀ k, k ∈ SB → k ∉ Q := fun k hk hm => by
    rcases (hQ k hm).2 with e | e
    · exact (h4 k hk).2.2.1 e
    · exact e (h4 k hk).2.2.2
  refine ⟨h.since.out' ho (fun k hk => (hQ k hk).1), ho.block' h.bx hgx, ⟨h.hx.1, h.hx.2.1, h.hx.2.2.1, Nat.lt_of_lt_of_le h.hx.2.2.2 ho.size⟩, S, SB, (talkT g s).kept h1 ho hS, (bldT b t).kept h2 ho hB, fun k hk => ?_, fun k hk => ?_⟩
  · obtain ⟨a, b', c, d, e⟩ := h3 k hk
    exact ⟨a, b', c, d, e.out ho (hS k hk)⟩
  · obtain ⟨a, b', c, e⟩ := h4 k hk
    exact ⟨a, b', c, e.out ho (hB k hk)⟩
theorem RunI.from_ (w0 : World) (gx b gb g B : Nat) (hB : w0.heap.size ≤ B) (F : List (List UInt8) → TkS × List UInt8) : OwnFrom B (fun (pre : List (List UInt8)) W => RunI w0 gx b gb g (F pre).1 (F pre).2 W) := fun pre W W' row h hg hr =>
  h.out (Q := row.toList) (Out.of_grown hg (fun k hk => Or.inl (by rw [hk]; simp))) (fun k hk => by
    have e : row = some k := by simpa [Option.mem_toList] using hk
    obtain ⟨h1, o, h2, h3⟩ := hr k e
    exact ⟨Nat.le_trans hB h1, Or.inr (fun ⟨o', h4, h5⟩ => by rw [h2] at h4; cases h4; rw [h3] at h5; cases h5)⟩)
theorem RunI.bears (w0 : World) (gx b gb g : Nat) (F : List (List UInt8) → TkS × List UInt8) : Bears gb (fun (pre : List (List UInt8)) W => RunI w0 gx b gb g (F pre).1 (F pre).2 W) :=
  ⟨fun pre A h => h.out (Out.refl A []).drew (by simp), fun pre A v h => h.out ((Out.refl A [gb]).put (p := ⟨gb, 0, none⟩) (Or.inl (by simp)) v) (fun k hk => by
    rw [List.mem_singleton.1 hk]
    exact ⟨h.hx.2.1, Or.inl rfl⟩)⟩
theorem out_cells {W W' : World} {Q : List Nat} (ho : Out W W' Q) (hQ : ∀ k, k ∈ Q → CellsAt W k) : KeepsOthers W W' := ⟨ho.size, fun k o hk hc => (ho.block k (Array.getElem?_eq_some_iff.1 hk).1 (fun hm => by
  obtain ⟨o', h1, h2⟩ := hQ k hm
  rw [hk] at h1
  cases h1
  rw [hc] at h2
  cases h2)).trans hk⟩
/-- behind the talk's part of a line -/
theorem RunI.talk {w0 W W' : World} {gx b gb g : Nat} {s s' : TkS} {t : List UInt8} {S SB : List Nat} (h : RunI w0 gx b gb g s t W) (h1 : (talkT g s).is W S) (h2 : (bldT b t).is W SB) (h3 : ∀ k, k ∈ S → w0.heap.size ≤ k ∧ k ≠ gx ∧ k ≠ gb ∧ k ∉ SB ∧ CellsAt W k) (h4 : ∀ k, k ∈ SB → w0.heap.size ≤ k ∧ k ≠ gx ∧ k ≠ gb ∧ CellsAt W k)
    (hl : Leaves W W' S (talkT g s')) : RunI w0 gx b gb g s' t W' ∧ KeepsOthers W W' ∧ W'.heap[gb]? = W.heap[gb]? := by
  obtain ⟨S', a1, a2, a3⟩ := hl
  have hgx : gx ∉ S := fun hm => (h3 gx hm).2.1 rfl
  have hgb : gb ∉ S := fun hm => (h3 gb hm).2.2.1 rfl
  obtain ⟨S2, c1, c2, c3⟩ := shr_talk g s' W' S' a1
  have hB : ∀ k, k ∈ SB → k ∉ S := fun k hk hm => (h3 k hm).2.2.2.1 hk
  refine ⟨⟨h.since.out' a2 (fun k hk => (h3 k hk).1), a2.block' h.bx hgx, ⟨h.hx.1, h.hx.2.1, h.hx.2.2.1, Nat.lt_of_lt_of_le h.hx.2.2.2 a2.size⟩, S2, SB, c2, (bldT b t).kept h2 a2 hB, fun k hk => ?_, fun k hk => ?_⟩, out_cells a2 (fun k hk => (h3 k hk).2.2.2.2), a2.block gb h.hx.2.2.2 hgb⟩
  · rcases a3 k (c1 k hk) with hm | hm
    · obtain ⟨p1, p2, p3, p4, _⟩ := h3 k hm
      exact ⟨p1, p2, p3, p4, c3 k hk⟩
    · refine ⟨Nat.le_trans h.since.size hm, ?_, ?_, fun hkB => ?_, c3 k hk⟩
      · have := h.bx.lt; omega
      · have := h.hx.2.2.2; omega
      · have := (bldT b t).lt h2 k hkB; omega
  · obtain ⟨p1, p2, p3, p4⟩ := h4 k hk
    exact ⟨p1, p2, p3, p4.out a2 (hB k hk)⟩
/-- behind the builder's part of a line -/
theorem RunI.text {w0 W W' : World} {gx b gb g : Nat} {s : TkS} {t t' : List UInt8} {S SB : List Nat} (h : RunI w0 gx b gb g s t W) (h1 : (talkT g s).is W S) (h2 : (bldT b t).is W SB) (h3 : ∀ k, k ∈ S → w0.heap.size ≤ k ∧ k ≠ gx ∧ k ≠ gb ∧ k ∉ SB ∧ CellsAt W k) (h4 : ∀ k, k ∈ SB → w0.heap.size ≤ k ∧ k ≠ gx ∧ k ≠ gb ∧ CellsAt W k)
    (hl : Leaves W W' SB (bldT b t')) : RunI w0 gx b gb g s t' W' ∧ KeepsOthers W W' ∧ W'.heap[gb]? = W.heap[gb]? := by
  obtain ⟨S', a1, a2, a3⟩ := hl
  have hgx : gx ∉ SB := fun hm => (h4 gx hm).2.1 rfl
  have hgb : gb ∉ SB := fun hm => (h4 gb hm).2.2.1 rfl
  obtain ⟨S2, c1, c2, c3⟩ := shr_bld b t' W' S' a1
  have hB : ∀ k, k ∈ S → k ∉ SB := fun k hk => (h3 k hk).2.2.2.1
  refine ⟨⟨h.since.out' a2 (fun k hk => (h4 k hk).1), a2.block' h.bx hgx, ⟨h.hx.1, h.hx.2.1, h.hx.2.2.1, Nat.lt_of_lt_of_le h.hx.2.2.2 a2.size⟩, S, S2, (talkT g s).kept h1 a2 hB, c2, fun k hk => ?_, fun k hk => ?_⟩, out_cells a2 (fun k hk => (h4 k hk).2.2.2), a2.block gb h.hx.2.2.2 hgb⟩
  · obtain ⟨p1, p2, p3, p4, p5⟩ := h3 k hk
    refine ⟨p1, p2, p3, fun hkB => ?_, p5.out a2 (hB k hk)⟩
    rcases a3 k (c1 k hkB) with hm | hm
    · exact p4 hm
    · have := (talkT g s).lt h1 k hk; omega
  · rcases a3 k (c1 k hk) with hm | hm
    · obtain ⟨p1, p2, p3, _⟩ := h4 k hm
      exact ⟨p1, p2, p3, c3 k hk⟩
    · refine ⟨Nat.le_trans h.since.size hm, ?_, ?_, c3 k hk⟩
      · have := h.bx.lt; omega
      · have := h.hx.2.2.2; omega
end Go.Proofs.YtmfbaijbigodkaaGreatDoor

/-! run.Run by a contract: the answers to all lines of a text. Condition: the tables hold what the program's text lays. -/
namespace Go.Proofs.YtmfbaijbigodkaaGreatDoor
open Go.ChangeShapes Go.WideShapes Go.ChangeAt Go.RowKit Go.Shelf
set_option linter.unusedVariables false
attribute [local go_sem] Oper.semAt_some

/-- a line without its end -/
def trim (x : List UInt8) : List UInt8 := Lib.trimSuffix x [10]
theorem trim_len (x : List UInt8) : (trim x).length ≤ x.length := by
  unfold trim Lib.trimSuffix
  split
  · rw [List.length_take]; omega
  · exact Nat.le_refl _
theorem trims_len : ∀ L : List (List UInt8), (L.map trim).flatten.length ≤ L.flatten.length
  | [] => Nat.le_refl _
  | x :: r => by
    have h1 := trim_len x
    have h2 := trims_len r
    rw [List.map_cons, List.flatten_cons, List.flatten_cons, List.length_append, List.length_append]
    omega
theorem take_flat (L : List (List UInt8)) (k : Nat) : (L.take k).flatten.length ≤ L.flatten.length := by
  have h : L.flatten.length = (L.take k).flatten.length + (L.drop k).flatten.length := by rw [← List.length_append, ← List.flatten_append, List.take_append_drop]
  omega
theorem mem_flat {L : List (List UInt8)} {x : List UInt8} (h : x ∈ L) : x.length ≤ L.flatten.length := by
  induction L with
  | nil => simp at h
  | cons y r ih =>
    rw [List.flatten_cons, List.length_append]
    rcases List.mem_cons.1 h with rfl | h
    · omega
    · have := ih h; omega
/-- the session's state behind lines, and what was answered -/
noncomputable def after (pre : List (List UInt8)) : TkS × List UInt8 := (behind (TkS.new 20) (pre.map trim), anss (TkS.new 20) (pre.map trim))
theorem after_snoc (pre : List (List UInt8)) (x : List UInt8) : after (pre ++ [x]) = ((ans (after pre).1 (trim x)).2, (after pre).2 ++ ((ans (after pre).1 (trim x)).1 ++ ⟨#[10]⟩).data.toList) := by
  unfold after
  rw [List.map_append, behind_app, anss_app]
  simp [behind, anss]
theorem after_few (L : List (List UInt8)) (k : Nat) (h : L.flatten.length ≤ 3000) : Few (after (L.take k)).1 1000 := by
  have h1 := few_behind ((L.take k).map trim) (s := TkS.new 20) (k := 0) ⟨Nat.le_refl _, Nat.le_refl _⟩
  have h2 := fours_few ((L.take k).map trim)
  have h3 := trims_len (L.take k)
  have h4 := take_flat L k
  exact h1.up (by omega)
theorem lines_in (n : Nat) (s : ByteArray) (w : World) : CallsIn Fence.wide n Tryz.prog 75 #[.string s] w fun e w' => e = .returned (.func (.func 111) #[] #[.pointer (some ⟨w.heap.size, 0, none⟩)]) ∧ w' = w.alloc (.cells #[.string s] 9) := by
  refine callsIn_of_wp Tryz.func75 rfl trivial ?_ rfl
  simp only [Tryz.ntmps75, List.size_toArray, List.length_cons, List.length_nil, Nat.reduceAdd, Nat.reduceSub, Array.replicate_succ, Array.replicate_zero, List.push_toArray, List.append_toArray, List.nil_append, List.cons_append]
  gi_wp2
  go_ret
  exact ⟨rfl, rfl⟩
theorem linesA_hands (L : List (List UInt8)) (h0 : LnOk L) (hb : L.flatten.length ≤ 1000000) (n : Nat) (hn : 1 ≤ n) (gb : Nat) (w : World) (hc : BlockIs w gb 9 #[.string ⟨L.flatten.toArray⟩]) :
    Hands Fence.wide n Tryz.prog 111 gb #[.pointer (some ⟨gb, 0, none⟩)] (fun x => #[lnv x]) (fun xs => xs = L) (nextLn L) w := by
  intro l J W hW hJ hY hj
  have hc2 := hc.later hW
  exact (linesA_in n hn gb L h0 hb l J W hJ hY (hc2.cell 0) (hc2.free 0) hj).mono fun e X ⟨h1, h2⟩ => ⟨h1, L, rfl, h2⟩
theorem lines_few : ∀ t : List UInt8, (linesOf t).length ≤ t.length
  | [] => Nat.le_refl _
  | b :: r => by
    have ih := lines_few r
    rw [linesOf]
    split
    · rw [List.length_cons, List.length_cons]; omega
    · split
      · rename_i h; rw [h] at ih; simp
      · rename_i l ls h
        rw [h, List.length_cons] at ih
        rw [List.length_cons, List.length_cons]; omega
theorem keeps_cell {W X : World} {g : Nat} (h : X.heap[g]? = W.heap[g]?) {v : Value} (hv : W.cell? ⟨g, 0, none⟩ = some v) (hf : W.frozen? ⟨g, 0, none⟩ = false) : X.cell? ⟨g, 0, none⟩ = some v ∧ X.frozen? ⟨g, 0, none⟩ = false := by
  unfold World.cell? at hv ⊢
  unfold World.frozen? at hf ⊢
  rw [h]
  exact ⟨hv, hf⟩
theorem RunI.start {w w1 : World} {g : Nat} (hl : Leaves w w1 [] (talkT g (TkS.new 20))) (t : ByteArray) : RunI w w1.heap.size (w1.heap.size + 1) (w1.heap.size + 1 + 1) g (TkS.new 20) [] (((w1.alloc (.cells #[.pointer (some ⟨g, 0, none⟩)] 129)).alloc (.cells #[.pointer none, .slice none 0 0] 133)).alloc (.cells #[.string t] 9)) := by
  obtain ⟨S', a1, a2, a3⟩ := hl
  have hs : Since w w1 := a2.none_
  have hle := hs.size
  obtain ⟨S2, c1, c2, c3⟩ := shr_talk g (TkS.new 20) w1 S' a1
  have hsz : (w1.alloc (.cells #[.pointer (some ⟨g, 0, none⟩)] 129)).heap.size = w1.heap.size + 1 := by simp
  have hb := bld_fresh (w1.alloc (.cells #[.pointer (some ⟨g, 0, none⟩)] 129))
  rw [hsz] at hb
  have s3 : Since w1 (((w1.alloc (.cells #[.pointer (some ⟨g, 0, none⟩)] 129)).alloc (.cells #[.pointer none, .slice none 0 0] 133)).alloc (.cells #[.string t] 9)) := (by refine Since.out ?_; repeat (first | with_reducible assumption | with_reducible exact Since.refl _ | with_reducible refine Since.later ?_ (by with_reducible assumption) | with_reducible refine Since.only ?_ (by with_reducible assumption) (by first | assumption | omega | (simp; done) | (simp; omega)) | with_reducible refine Since.alloc ?_ _ | with_reducible refine Since.drewN ?_ _ | with_reducible refine Since.drew ?_ | with_reducible refine Since.set ?_ (by first | assumption | omega | (simp; done) | (simp; omega)) _))
  refine ⟨hs.later s3, ((BlockIs.fresh w1 _ _).alloc _).alloc _, ⟨hle, by omega, by omega, by simp⟩, S2, [w1.heap.size + 1], (talkT g (TkS.new 20)).later c2 s3, (bldT _ []).later hb ((Since.refl _).alloc _), fun k hk => ?_, fun k hk => ?_⟩
  · have hlt := (talkT g (TkS.new 20)).lt c2 k hk
    refine ⟨?_, by omega, by omega, by simp; omega, (c3 k hk).out (Out.of_below s3 []) (by simp)⟩
    rcases a3 k (c1 k hk) with h | h
    · simp at h
    · exact h
  · rw [List.mem_singleton.1 hk]
    have hcb : CellsAt ((w1.alloc (.cells #[.pointer (some ⟨g, 0, none⟩)] 129)).alloc (.cells #[.pointer none, .slice none 0 0] 133)) (w1.heap.size + 1) := by
      obtain ⟨p, v, _, h2, _⟩ := hb
      exact ⟨_, h2, rfl⟩
    exact ⟨by omega, by omega, by omega, hcb.out (Out.of_below ((Since.refl _).alloc _) []) (by simp)⟩
set_option maxRecDepth 100000 in
set_option maxHeartbeats 3200000 in
theorem prun_in (t : ByteArray) (ht : t.size ≤ 3000) (w : World) (T : RTabs w) :
    CallsIn Fence.wide 6 Tryz.prog 36 #[.string t] w fun e w' => e = .returned (.string ⟨(after (linesOf t.data.toList)).2.toArray⟩) ∧ Since w w' := by
  have HTN := Lib.hid (fun W => tnew 20 (by decide) (by decide) W)
  have hlt : decide ((3000 : Int) < (t.size : Int)) = false := by simp; omega
  have hlt2 : ¬ 3000 < t.size := by omega
  have hflat : (⟨(linesOf t.data.toList).flatten.toArray⟩ : ByteArray) = t := by
    rw [linesOf_flat]
  have hLb : (linesOf t.data.toList).flatten.length ≤ 3000 := by
    rw [linesOf_flat, Array.length_toList]
    exact ht
  have hLn : (linesOf t.data.toList).length ≤ 3000 := by
    have := lines_few t.data.toList
    rw [Array.length_toList] at this
    exact Nat.le_trans this ht
  have hOK := linesOf_ok t.data.toList
  obtain ⟨L, hL⟩ : ∃ L, linesOf t.data.toList = L := ⟨_, rfl⟩
  rw [hL] at hflat hLb hLn hOK
  rw [hL]
  refine callsIn_of_wp_marks Tryz.func36 rfl trivial ?_ rfl
  simp only [Tryz.ntmps36, List.size_toArray, List.length_cons, List.length_nil, Nat.reduceAdd, Nat.reduceSub, Array.replicate_succ, Array.replicate_zero, List.push_toArray, List.append_toArray, List.nil_append, List.cons_append]
  trace "A"; gi_wp2_with (refine ⟨trivial, ?_⟩; gi_at_call 23; refine (callsIn_wide.2 (HTN.out _)).mono ?_; rintro e w1 ⟨g, rfl, hl⟩)
  trace "B"; gi_wp2_with (refine ⟨trivial, ?_⟩; gi_at_call 75; refine (lines_in _ _ _).mono ?_; rintro e w2 ⟨rfl, rfl⟩)
  have hst := RunI.start hl t
  obtain ⟨W3, hW3⟩ : ∃ W3, (((w1.alloc (.cells #[.pointer (some ⟨g, 0, none⟩)] 129)).alloc (.cells #[.pointer none, .slice none 0 0] 133)).alloc (.cells #[.string t] 9)) = W3 := ⟨_, rfl⟩
  have hcg : BlockIs W3 (w1.heap.size + 1 + 1) 9 #[.string ⟨L.flatten.toArray⟩] := by rw [hflat, ← hW3]; exact BlockIs.fresh_at (by simp)
  have hgl : w1.heap.size + 1 + 1 < W3.heap.size := hcg.lt
  rw [hW3] at hst
  rw [hW3]
  obtain ⟨gx, hgx⟩ : ∃ x, w1.heap.size = x := ⟨_, rfl⟩
  rw [hgx] at hst hcg hgl
  rw [hgx]
  clear hl hW3 hgx hlt hlt2 HTN
  trace "C"; refine rangeW (w := W3) rfl (by omega) (gf := 111) (gb := gx + 1 + 1) (lb := #[.pointer (some ⟨gx + 1 + 1, 0, none⟩)]) rfl trivial (enters_of Tryz.func111 (by kernel_rfl) rfl) hgl
    (linesA_hands L hOK (by omega) _ (by omega) (gx + 1 + 1) _ hcg) (fun _ => rfl)
    (fun pre W => RunI w gx (gx + 1) (gx + 1 + 1) g (after pre).1 (after pre).2 W ∧ (after pre).2.length ≤ 101 * pre.length)
    (OwnFrom.and (RunI.from_ w gx (gx + 1) (gx + 1 + 1) g _ hst.since.size after) (ownFrom_pure _ (fun pre => (after pre).2.length ≤ 101 * pre.length)))
    ⟨fun pre A h => ⟨(RunI.bears w gx (gx + 1) (gx + 1 + 1) g after).drew _ _ h.1, h.2⟩, fun pre A v h => ⟨(RunI.bears w gx (gx + 1) (gx + 1 + 1) g after).cell _ _ _ h.1, h.2⟩⟩
    ⟨hst, Nat.zero_le _⟩
    (fun x => { tmps := #[.string t, undef, .string ⟨#[]⟩, .pointer (some ⟨g, 0, none⟩), .nilIface, .pointer (some ⟨gx, 0, none⟩), .pointer (some ⟨gx + 1, 0, none⟩), lnv x, .string t, .int .i64 t.size, .bool false, .tuple #[.pointer (some ⟨g, 0, none⟩), .nilIface], .tuple #[.pointer (some ⟨g, 0, none⟩), .nilIface], .pointer (some ⟨g, 0, none⟩), .nilIface, .nilIface, .bool false, .pointer (some ⟨g, 0, none⟩), .agg #[.pointer (some ⟨g, 0, none⟩)], .string t, .func (.func 111) #[] #[.pointer (some ⟨gx + 1 + 1, 0, none⟩)], lnv x, undef, undef, undef, undef, undef, undef, undef], defers := [] }) ?assign ?body ?done
  case assign =>
    trace "D"; intro l x W K hK
    gi_wp2
    exact hK
  case body =>
    trace "E"; rintro l pre x W ⟨hR, hz⟩ hlen
    obtain ⟨k, hk, rfl, rfl⟩ := hlen
    have hfew := after_few L k hLb
    have hsn := after_snoc (L.take k) (L.getD k [])
    have hpl : (L.take k ++ [L.getD k []]).length = (L.take k).length + 1 := by rw [List.length_append]; rfl
    have hkl : (L.take k).length ≤ 3000 := by rw [List.length_take]; omega
    have hxl : (L.getD k []).length ≤ 3000 := by
      have h1 : L.getD k [] ∈ L := by simp [List.getD, List.getElem?_eq_getElem hk]
      have h2 := mem_flat h1
      omega
    have HTS : Hid (∀ X, Calls Tryz.prog 78 #[lnv (L.getD k []), .string ⟨#[10]⟩] X fun e X' => e = .returned (.string ⟨(trim (L.getD k [])).toArray⟩) ∧ X' = X) := Lib.hid (fun X => by
      have h := Tryz.strings_TrimSuffix ⟨(L.getD k []).toArray⟩ ⟨#[10]⟩ X (by rw [size_of]; omega)
      have e1 : (⟨(L.getD k []).toArray⟩ : ByteArray).data.toList = L.getD k [] := by simp
      have e2 : (⟨#[10]⟩ : ByteArray).data.toList = [10] := rfl
      rw [e1, e2] at h
      exact h)
    have hRd : RunI w gx (gx + 1) (gx + 1 + 1) g (after (L.take k)).1 (after (L.take k)).2 W.drew := (RunI.bears w gx (gx + 1) (gx + 1 + 1) g after).drew _ _ hR
    have htl := trim_len (L.getD k [])
    rw [hsn, hpl]
    generalize (after (L.take k)).1 = s0 at *
    generalize (after (L.take k)).2 = tx at *
    generalize trim (L.getD k []) = y at *
    generalize L.getD k [] = x at *
    obtain ⟨S, SB, h1, h2, h3, h4⟩ := hRd.ex
    obtain ⟨ok1, ok2, ok3⟩ := talk_ok h1
    have hx1 := ans_few ok2 ok3 ok1 y
    have HAN : Hid (Calls Tryz.prog 77 #[.agg #[.pointer (some ⟨g, 0, none⟩)], .string ⟨y.toArray⟩] W.drew fun e w' => e = .returned (.string (ans s0 y).1) ∧ Leaves W.drew w' S (talkT g (ans s0 y).2)) := Lib.hid (by
      have h := answerL w T g s0 hfew ⟨y.toArray⟩ (by rw [size_of]; omega) W.drew S hRd.since h1 (fun k hk => (h3 k hk).1)
      have e1 : (⟨y.toArray⟩ : ByteArray).data.toList = y := by simp
      rw [e1] at h
      exact h)
    generalize (ans s0 y).1 = X at *
    generalize (ans s0 y).2 = s1 at *
    have hx2 : (X ++ (⟨#[10]⟩ : ByteArray)).size ≤ 101 := by rw [ByteArray.size_append]; have : (⟨#[10]⟩ : ByteArray).size = 1 := rfl; omega
    have hx3 : (tx ++ (X ++ (⟨#[10]⟩ : ByteArray)).data.toList).length ≤ 101 * ((L.take k).length + 1) := by
      have e9 : (X ++ (⟨#[10]⟩ : ByteArray)).data.toList.length = (X ++ (⟨#[10]⟩ : ByteArray)).size := by rw [Array.length_toList]; rfl
      rw [List.length_append, e9]
      omega
    have hmx : Tryz.prog.follows .mixedOrders = true := by kernel_rfl
    have cx : W.cell? ⟨gx, 0, none⟩ = some (.pointer (some ⟨g, 0, none⟩)) := hR.bx.cell 0
    have hX60 : X.size ≤ 100 := hx1
    have H1 := Lib.hid h1
    have H2 := Lib.hid h2
    have H3 := Lib.hid h3
    have H4 := Lib.hid h4
    have HRD := Lib.hid hRd
    clear h1 h2 h3 h4 hRd ok1 ok2 ok3 hsn hfew
    trace "F"; gi_wp2
    trace "G"; gi_region_with_o (first
      | (refine ⟨trivial, ?_⟩; gi_at_call 78; refine (CallsIn.inRound l (callsIn_wide.2 (HTS.out _))).mono ?_; rintro e X1 ⟨rfl, rfl⟩)
      | (refine ⟨trivial, ?_⟩; gi_at_call 77; refine (CallsIn.inRound l (callsIn_wide.2 HAN.out)).mono ?_; rintro e w5 ⟨rfl, hl5⟩; obtain ⟨hR5, hk5, hg5⟩ := RunI.talk HRD.out H1.out H2.out H3.out H4.out hl5; obtain ⟨S5, SB5, i1, i2, i3, i4⟩ := hR5.ex; have HW := Lib.hid (bwriteT (gx + 1) tx (X ++ ⟨#[10]⟩) w5 SB5 i2 (by omega)))
      | (refine ⟨trivial, ?_⟩; gi_at_call 76; refine (CallsIn.inRound l (callsIn_wide.2 HW.out)).mono ?_; rintro e w6 ⟨rfl, hl6⟩; obtain ⟨hR6, hk6, hg6⟩ := RunI.text hR5 i1 i2 i3 i4 hl6))
    all_goals
      trace "H"; gi_wp2
      exact ⟨(show KeepsOthers W w5 from ⟨hk5.size, fun k o a1 a2 => hk5.same k o a1 a2⟩).trans hk6, ⟨hR6, by first | exact hx3 | (have hz9 := hz; rw [List.length_take] at hz9; omega)⟩, fun v hv hf => keeps_cell (hg6.trans hg5) hv hf⟩
  case done =>
    trace "I"; rintro D ys W hD rfl ⟨hR, hz⟩ hK
    obtain ⟨S, SB, h1, h2, h3, h4⟩ := hR.ex
    have HST := Lib.hid (bld_text w (gx + 1) (after ys).2 W SB hR.since h2 (fun k hk => (h4 k hk).1))
    clear h1 h2 h3 h4
    gi_wp2_with fail
    refine ⟨trivial, ?_⟩
    refine (callsIn_wide.2 HST.out).mono ?_
    rintro e w9 ⟨rfl, hs9, hk9⟩
    have hd9 := hk9 D _ hK rfl
    have hDw : w.heap.size ≤ D := Nat.le_trans hst.since.size hD
    trace "J"; gi_wp2_with fail
    refine ⟨by simp, .inl ⟨_, _, rfl, run_takeDeferred hd9, ?_⟩⟩
    exact ⟨.string ⟨(after ys).2.toArray⟩, by simp [results, go_sem], rfl, hs9.trans (belowK_b (w := w) (Nat.le_refl _) w9 D _ _ hDw hd9 rfl rfl)⟩
/-- Run -/
theorem prun (t : ByteArray) (ht : t.size ≤ 3000) (w : World) (T : RTabs w) :
    Calls Tryz.prog 36 #[.string t] w fun e w' => e = .returned (.string ⟨(after (linesOf t.data.toList)).2.toArray⟩) ∧ Since w w' :=
  callsIn_wide.1 (prun_in t ht w T)
def bLong : ByteArray := ⟨#[116, 111, 111, 32, 108, 111, 110, 103, 10]⟩
theorem prun_long (t : ByteArray) (ht : 3000 < t.size) (w : World) :
    Calls Tryz.prog 36 #[.string t] w fun e w' => e = .returned (.string bLong) ∧ Since w w' := by
  have hl : (3000 : Int) < (t.size : Int) := by omega
  go_enter Tryz.func36, Tryz.ntmps36
  go_wp2_with fail
  go_ret
  exact ⟨rfl, Since.refl _⟩
end Go.Proofs.YtmfbaijbigodkaaGreatDoor

/-! Plain words on two ends that talk over a link that is good: each exchange one byte more comes, if there is one. No program here. -/
namespace Go.Proofs.YtmfbaijbigodkaaGreatDoor
open Go.ChangeShapes Go.WideShapes Go.ChangeAt Go.RowKit
set_option linter.unusedVariables false

theorem readyF_end {M : Plc} : ∀ {f t : Nat}, readyF M f t < f → (M.at (t + readyF M f t)).isSome = false
  | 0, t, h => by omega
  | f + 1, t, h => by
    rw [readyF] at h ⊢
    by_cases h0 : (M.at t).isSome = true
    · rw [if_pos h0] at h ⊢
      have := readyF_end (M := M) (f := f) (t := t + 1) (by omega)
      rw [show t + (readyF M f (t + 1) + 1) = t + 1 + readyF M f (t + 1) by omega]; exact this
    · rw [if_neg h0]
      simpa using h0
theorem ready_end {M : Plc} {t : Nat} (ht : t ≤ 60) : (M.at (t + readyN M t)).isSome = false ∨ t + readyN M t = 60 := by
  have := readyN_le M t ht
  by_cases h : readyN M t < 60 - t
  · left; exact readyF_end h
  · right; omega
/-- all that came in order was read -/
def Done (y : EnS) : Prop := (y.M.at y.t).isSome = false ∨ y.t = 60
theorem take_all (M : Plc) {t : Nat} (ht : t ≤ 60) : takeK M t 60 = readyN M t := by
  have := readyN_le M t ht
  unfold takeK
  omega
theorem done_read {y : EnS} (h : EnOk y) : Done (y.read 60) ∧ (y.read 60).t = y.t + readyN y.M y.t := by
  have e : (y.read 60).t = y.t + readyN y.M y.t := by
    unfold EnS.read
    rw [if_neg (by decide)]
    show y.t + takeK y.M y.t 60 = _
    rw [take_all _ h.tt]
  refine ⟨?_, e⟩
  have eM : (y.read 60).M = y.M := by unfold EnS.read; rw [if_neg (by decide)]
  unfold Done
  rw [e, eM]
  exact ready_end h.tt
/-- x knows all that y can tell -/
def Fr (x y : EnS) : Prop := (∀ j, (y.M.at j).isSome = true → tat x.told j = true) ∧ x.may = y.L
theorem new_num {x y : EnS} (h : Hf x y) : inB y.came (x.made.length : Int) = false := by
  cases hi : inB y.came (x.made.length : Int) with
  | false => rfl
  | true =>
    obtain ⟨m, ps, e, hm, _⟩ := h.cm _ hi
    have := (List.getElem?_eq_some_iff.1 hm).1
    omega
theorem pcsR_from {T : List Bool} {last : Nat} {data : ByteArray} {k t : Nat} (h : ∀ j, j < t → tat T j = true) : ∀ d a, a + d = t → pcsR T last data a k = pcsR T last data t k
  | 0, a, e => by rw [show a = t by omega]
  | d + 1, a, e => by
    have h0 := h a (by omega)
    rw [pcsR_skip, pcsR_from h d (a + 1) (by omega)]
    rw [strN, if_neg (by rw [h0]; simp)]
theorem first_piece {x y : EnS} (h : Pair x y) (fr : Fr x y) (hd : (y.M.at y.t).isSome = false) (hl : y.t < x.data.size) : ∃ p ∈ x.pieces, p.has y.t = true := by
  have ht : ∀ j, j < y.t → tat x.told j = true := fun j hj => fr.1 j (h.xy.tk j hj)
  have hn : tat x.told y.t = false := by
    cases hb : tat x.told y.t with
    | false => rfl
    | true => have := h.xy.tl _ hb; rw [hd] at this; cases this
  obtain ⟨w1, w2, r1, k1, k2, l1, l2, lo, hi⟩ := h.oy.cr
  have hrt := h.oy.rt
  have hla : y.t < x.last := by
    have := fr.2
    unfold EnS.last
    omega
  have hs : strN x.told x.last 20 y.t ≠ 0 := by
    rw [strN, if_pos ⟨hla, hn⟩]; omega
  have e : x.pieces = ⟨y.t, x.data.extract y.t (y.t + strN x.told x.last 20 y.t)⟩ :: pcsR x.told x.last x.data (y.t + strN x.told x.last 20 y.t) 2 := by
    unfold EnS.pieces
    rw [pcsR_from ht y.t 0 (by omega), pcsR_take hla (by decide) hs]
  refine ⟨_, by rw [e]; exact List.mem_cons_self .., ?_⟩
  have hsz := strN_le x.told x.last 20 y.t
  have hL := h.ox.last
  have hz : (x.data.extract y.t (y.t + strN x.told x.last 20 y.t)).size = strN x.told x.last 20 y.t := by
    rw [ByteArray.size_extract]; omega
  unfold Pc.has
  simp only [decide_eq_true_iff]
  rw [hz]
  omega
/-- x's packet comes to y at once, and is taken -/
theorem send_take {x y : EnS} (h : Pair x y) (hm : x.made.length ≤ 1000000) (he : y.takeE x.packet ≠ 4) :
    y.takeE x.packet = 0 ∧ ∃ C' M', y.take x.packet = y.got x.made.length x.came x.L C' M' ∧ Pair x.make (y.take x.packet) ∧ Fr (y.take x.packet) x.make ∧
      (∀ j, (M'.at j).isSome = (x.pieces.any (fun p => p.has j) || (y.M.at j).isSome)) := by
  have f := Fly.made h.ox hm
  have hp := h.make
  rcases take_fly hp.ox hp.oy hp.xy hp.yx f (by show (x.made ++ [x.pieces]).length ≤ _; simp) hm with ⟨a, _⟩ | ⟨_, _, a, _⟩ | ⟨_, ha, a, C', M', c, r2, r3⟩
  · rw [new_num h.xy] at a; cases a
  · exact absurd a he
  · refine ⟨a, C', M', c, ?_, ?_, r3⟩
    · exact (hp.take f (by show (x.made ++ [x.pieces]).length ≤ _; simp) hm).1
    · rw [c]
      obtain ⟨e1, e2, e3, e4, e5, e6, e7, e8, e9⟩ := got_fields y x.made.length x.came x.L C' M'
      refine ⟨fun j hj => ?_, ?_⟩
      · rw [e9, got_told hp.oy hp.yx h.ox.cm (fun i hi => hi)]
        right
        obtain ⟨m, ps, p, q1, q2, q3, q4⟩ := h.yx.cv j hj
        exact ⟨m, ps, p, q1, q2, q3, q4⟩
      · rw [e7]
        show max y.may x.L = x.L
        have := h.yx.my
        omega
/-- who hears, and reads all: so it is behind an exchange -/
noncomputable def EnS.hear (y x : EnS) : EnS := (y.take x.packet).read 60
theorem read_rest {y : EnS} (n : Int) : (y.read n).M = y.M ∧ (y.read n).told = y.told ∧ (y.read n).may = y.may ∧ (y.read n).data = y.data ∧ (y.read n).made = y.made ∧ (y.read n).came = y.came := by
  unfold EnS.read; split <;> simp
theorem exchange {x y : EnS} (h : Pair x y) (hm : x.made.length ≤ 1000000) (he : y.takeE x.packet ≠ 4) :
    Pair (y.hear x) x.make ∧ Fr (y.hear x) x.make ∧ Done (y.hear x) ∧ (y.hear x).data = y.data ∧ (y.hear x).made = y.made ∧ y.t ≤ (y.hear x).t ∧ (Fr x y → Done y → ∀ k, min x.data.size k ≤ y.t → min x.data.size (k + 1) ≤ (y.hear x).t) := by
  obtain ⟨e0, C', M', c, hp, hf, hM⟩ := send_take h hm he
  obtain ⟨f1, f2, f3, f4, f5, f6, f7, f8, f9⟩ := got_fields y x.made.length x.came x.L C' M'
  unfold EnS.hear
  obtain ⟨d1, d2⟩ := done_read hp.oy
  obtain ⟨r1, r2, r3, r4, r5, r6⟩ := read_rest (y := y.take x.packet) 60
  have hpr := (hp.symm.read 60)
  refine ⟨hpr, ⟨fun j hj => by rw [r2]; exact hf.1 j hj, by rw [r3]; exact hf.2⟩, d1, by rw [r4, c, f1], by rw [r5, c, f2], by rw [d2, c, f4]; omega, fun fr dn k hk => ?_⟩
  rw [d2, c, f4, f5]
  by_cases hd : (y.M.at y.t).isSome = false
  · by_cases hl : y.t < x.data.size
    · obtain ⟨p, hp1, hp2⟩ := first_piece h fr hd hl
      have hs : (M'.at y.t).isSome = true := by
        rw [hM, List.any_eq_true.2 ⟨p, hp1, hp2⟩]; rfl
      have hr : 1 ≤ readyN M' y.t := by
        have h60 := h.ox.dz
        unfold readyN
        rw [show 60 - y.t = (60 - y.t - 1) + 1 by omega, readyF, if_pos hs]
        omega
      omega
    · omega
  · have := h.ox.dz
    rcases dn with dn | dn
    · exact absurd dn hd
    · omega
/-- what was read in order -/
theorem read_text {x y : EnS} (h : Pair x y) (n : Int) : y.t ≤ x.data.size ∧ x.data.extract 0 y.t ++ y.readS n = x.data.extract 0 (y.read n).t := by
  have hl : x.data.data.toList.length = x.data.size := Array.length_toList
  have ht : y.t ≤ x.data.size := by
    rcases Nat.eq_zero_or_pos y.t with h0 | h0
    · omega
    · obtain ⟨c, hc⟩ := Option.isSome_iff_exists.1 (h.xy.tk (y.t - 1) (by omega))
      have := (h.xy.of_ _ _ hc).1
      omega
  refine ⟨ht, ?_⟩
  unfold EnS.readS EnS.read
  by_cases hn : n < 0
  · rw [if_pos hn, if_pos hn]
    have : (⟨#[]⟩ : ByteArray) = ByteArray.empty := rfl
    rw [this, ByteArray.append_empty]
  · rw [if_neg hn, if_neg hn]
    exact (of_take h.xy.of_ ht n).2
/-- so it stands when so many exchanges went well, a to send -/
structure Going (i : Nat) (a b : EnS) (ka kb : Nat) : Prop where
  pr : Pair a b
  fr : 1 ≤ i → Fr a b ∧ Done a
  dn : 2 ≤ i → Done b
  ta : min b.data.size ka ≤ a.t
  tb : min a.data.size kb ≤ b.t
theorem Going.start {a b : EnS} (h : Pair a b) : Going 0 a b 0 0 := ⟨h, fun h => by omega, fun h => by omega, by omega, by omega⟩
theorem Going.next {i : Nat} {a b : EnS} {ka kb : Nat} (h : Going i a b ka kb) (hm : a.made.length ≤ 1000000) (he : b.takeE a.packet ≠ 4) : Going (i + 1) (b.hear a) a.make (if 2 ≤ i then kb + 1 else kb) ka := by
  obtain ⟨p, f, d, e1, e2, e3, e4⟩ := exchange h.pr hm he
  refine ⟨p, fun _ => ⟨f, d⟩, fun hi => (h.fr (by omega)).2, ?_, by show min (b.hear a).data.size ka ≤ a.t; rw [e1]; exact h.ta⟩
  show min a.data.size _ ≤ _
  by_cases hi : 2 ≤ i
  · rw [if_pos hi]
    exact e4 (h.fr (by omega)).1 (h.dn hi) kb h.tb
  · rw [if_neg hi]
    exact Nat.le_trans h.tb e3
end Go.Proofs.YtmfbaijbigodkaaGreatDoor

/-! Plain words on two ends of which one alone writes: what comes is a beginning, a window longer with each packet that tells what is new; and of how many ranges what came is. No program here. -/
namespace Go.Proofs.YtmfbaijbigodkaaGreatDoor
open Go.ChangeShapes Go.WideShapes Go.ChangeAt Go.RowKit
set_option linter.unusedVariables false

/-- the number behind the greatest makes no new range -/
theorem addL_next {r : Rng} {L : List Rng} {n : Int} (h : rngE (r :: L) = 0) (hn : n = r.hi + 1) (hm : MayBe n) : addE (r :: L) n = 0 ∧ addL (r :: L) n = ⟨r.lo, n⟩ :: L := by
  have hc := rngE_canon h
  have hw := withL_ok (x := ⟨n, n⟩) hc (Int.le_refl n)
  have hc2 : Canon (⟨r.lo, n⟩ :: L) := by
    refine ⟨fun o ho => ?_, ?_⟩
    · rcases List.mem_cons.1 ho with rfl | ho
      · have := hc.ok r (List.mem_cons_self ..)
        show r.lo ≤ n; omega
      · exact hc.ok o (List.mem_cons_of_mem _ ho)
    · have hg := hc.apart
      rw [List.pairwise_cons] at hg ⊢
      exact hg
  have e : withL (r :: L) ⟨n, n⟩ = ⟨r.lo, n⟩ :: L := by
    refine canon_eq hw.1 hc2 (fun y => ?_)
    rw [hw.2, inB_cons, inB_cons]
    have hr := hc.ok r (List.mem_cons_self ..)
    have : (rin r y || rin ⟨n, n⟩ y) = rin ⟨r.lo, n⟩ y := by
      unfold rin
      rw [Bool.eq_iff_iff]
      simp only [Bool.or_eq_true, Bool.and_eq_true, decide_eq_true_iff]
      omega
    rw [← this]
    cases rin r y <;> cases inB L y <;> cases rin ⟨n, n⟩ y <;> rfl
  have hl := rngE_len h
  have e0 : addE (r :: L) n = 0 := by
    unfold addE
    rw [if_pos h, if_pos (mayB_iff.2 hm), e, if_neg (by simp at hl ⊢; omega)]
  exact ⟨e0, by unfold addL; rw [if_pos e0, e]⟩
theorem addE_room {L : List Rng} {n : Int} (h : rngE L = 0) (hm : MayBe n) (hl : L.length ≤ 11) : addE L n = 0 := by
  unfold addE
  have := withL_len L ⟨n, n⟩
  rw [if_pos h, if_pos (mayB_iff.2 hm), if_neg (by omega)]
/-- so many were lost, so many ranges there are -/
structure Gaps (c : List Rng) (made lost : Nat) : Prop where
  few : c.length ≤ lost ∨ (c.length ≤ lost + 1 ∧ c ≠ [] ∧ (rat c 0).hi + 1 = made)
theorem Gaps.new : Gaps [] 0 0 := ⟨Or.inl (Nat.le_refl _)⟩
theorem Gaps.fits {c : List Rng} {made lost : Nat} (h : Gaps c made lost) (hc : rngE c = 0) (hm : made ≤ 1000000) (hl : lost ≤ 11) : addE c made = 0 := by
  have hmn : MayBe (made : Int) := ⟨by omega, by omega⟩
  rcases h.few with h | ⟨h1, h2, h3⟩
  · exact addE_room hc hmn (by omega)
  · cases c with
    | nil => exact absurd rfl h2
    | cons r L => exact (addL_next hc h3.symm hmn).1
theorem Gaps.come {c : List Rng} {made lost : Nat} (h : Gaps c made lost) (hc : rngE c = 0) (ha : addE c made = 0) (hb : ∀ n, inB c n = true → n < made) : Gaps (addL c made) (made + 1) lost := by
  have hin := addL_in hc ha
  have hok := addL_ok hc ha
  have h0 : inB (addL c made) made = true := by rw [hin]; simp
  have hne : addL c made ≠ [] := rng_nil hok.1 h0
  have hmn := hok.2.2
  have hcar : ((made : Nat) : Int) ≤ (rat (addL c made) 0).hi := came_top hok.1 h0
  have htop := came_top_in hok.1 hne
  rw [hin] at htop
  have hle : (rat (addL c made) 0).hi ≤ made := by
    rcases Bool.or_eq_true _ _ ▸ htop with h1 | h1
    · have := hb _ h1; omega
    · have := of_decide_eq_true h1; omega
  refine ⟨Or.inr ⟨?_, hne, by omega⟩⟩
  rcases h.few with h | ⟨h1, h2, h3⟩
  · rw [hok.2.1]
    have := withL_len c ⟨(made : Int), made⟩
    omega
  · cases c with
    | nil => exact absurd rfl h2
    | cons r L =>
      rw [(addL_next hc h3.symm hmn).2]
      exact h1
theorem came_lt {x y : EnS} (h : Hf x y) : ∀ n, inB y.came n = true → n < (x.made.length : Int) := by
  intro n hn
  obtain ⟨m, ps, e, hm, _⟩ := h.cm n hn
  have := (List.getElem?_eq_some_iff.1 hm).1
  omega
/-- the places below m, and no others -/
theorem any_rest {T : List Bool} {last a : Nat} {data : ByteArray} (hl : last ≤ data.size) (hT : ∀ j, a ≤ j → tat T j = false) : ∀ k, last - a ≤ 20 * k → ∀ j, (pcsR T last data a k).any (fun p => p.has j) = decide (a ≤ j ∧ j < last)
  | 0, h, j => by
    rw [pcsR_none (by omega)]
    symm
    simp
    omega
  | k + 1, h, j => by
    by_cases h0 : a < last
    · have hs := strN_le T last 20 a
      have hs2 : strN T last 20 a = min 20 (last - a) := by
        refine strN_eq (by omega) (fun i hi => ⟨by omega, hT _ (by omega)⟩) ?_
        by_cases hq : last - a ≤ 20
        · right; omega
        · left; omega
      rw [pcsR_take h0 (by omega) (by omega), List.any_cons]
      have hz : (data.extract a (a + strN T last 20 a)).size = strN T last 20 a := by rw [ByteArray.size_extract]; omega
      have h1 : (⟨a, data.extract a (a + strN T last 20 a)⟩ : Pc).has j = decide (a ≤ j ∧ j < a + strN T last 20 a) := by
        unfold Pc.has; rw [hz]
      have ih := any_rest (T := T) (last := last) (a := a + strN T last 20 a) (data := data) hl (fun i hi => hT i (by omega)) k (by omega) j
      rw [h1, show k + 1 - 1 = k by omega, ih, ← Bool.decide_or]
      apply decide_eq_decide.2
      omega
    · rw [pcsR_none (by omega)]
      symm
      simp
      omega
/-- one alone writes: x tells y; m bytes came, x knows of a -/
structure Lo (x y : EnS) (a m : Nat) : Prop where
  pr : Pair x y
  em : y.data.size = 0
  td : ∀ j, tat x.told j = decide (j < a)
  am : a ≤ m
  mm : ∀ j, (y.M.at j).isSome = decide (j < m)
  tm : y.t = m
  ml : m ≤ x.data.size
  li : m = x.data.size ∨ y.L = m + y.W
  my : x.may ≤ m ∨ m = x.data.size ∨ (a = m ∧ x.may = y.L)
/-- what y is when x's packet came, and was read -/
theorem Lo.hear {x y : EnS} {a m : Nat} (h : Lo x y a m) (hm : x.made.length ≤ 1000000) (he : y.takeE x.packet ≠ 4) :
    ∃ m', Lo x.make (y.hear x) a m' ∧ m ≤ m' ∧ (a = m → x.may = y.L → min x.data.size (m + y.W.toNat) ≤ m') ∧ (y.hear x).made = y.made ∧ (y.hear x).W = y.W ∧ (y.hear x).came = addL y.came x.made.length ∧ addE y.came x.made.length = 0 := by
  obtain ⟨e0, C', M', c, hp, hf, hM⟩ := send_take h.pr hm he
  obtain ⟨pe, -, -, q4, q5, q6, q7⟩ := exchange h.pr hm he
  obtain ⟨f1, f2, f3, f4, f5, f6, f7, f8, f9⟩ := got_fields y x.made.length x.came x.L C' M'
  have fW : (y.got x.made.length x.came x.L C' M').W = y.W ∧ (y.got x.made.length x.came x.L C' M').R = y.R := by
    unfold EnS.got EnS.acked; split <;> exact ⟨rfl, rfl⟩
  have hlast := h.pr.ox.last
  have hT : ∀ j, a ≤ j → tat x.told j = false := fun j hj => by rw [h.td]; simp; omega
  have hT1 : ∀ j, j < a → tat x.told j = true := fun j hj => by rw [h.td]; simp; omega
  have hany : ∀ j, x.pieces.any (fun p => p.has j) = decide (a ≤ j ∧ j < x.last) := fun j => by
    unfold EnS.pieces
    rw [pcsR_from hT1 a 0 (by omega)]
    exact any_rest hlast.1 hT 3 (by omega) j
  have ham := h.am
  have hM2 : ∀ j, (M'.at j).isSome = decide (j < max m x.last) := fun j => by
    rw [hM, hany, h.mm, ← Bool.decide_or]
    apply decide_eq_decide.2
    omega
  have hml := h.ml
  have hdz := h.pr.ox.dz
  have hk : readyN M' m = max m x.last - m := by
    refine readyN_eq (fun j hj => by rw [hM2]; simp; omega) (by omega) (Or.inl ?_)
    rw [hM2]; simp; omega
  obtain ⟨d1, d2⟩ := done_read hp.oy
  have hrt := h.pr.oy.rt
  have htm := h.tm
  have ht' : (y.hear x).t = max m x.last := by
    unfold EnS.hear
    rw [d2, c, f4, f5, htm, hk]; omega
  have hcr := h.pr.oy.cr
  have hL' : (y.hear x).L = limitN y.W y.L y.R (readyN M' m : Nat) := by
    unfold EnS.hear EnS.read
    rw [if_neg (by decide)]
    show limitN (y.take x.packet).W (y.take x.packet).L (y.take x.packet).R (takeK (y.take x.packet).M (y.take x.packet).t 60 : Nat) = _
    rw [c, f3, f4, f5, fW.1, fW.2, htm, take_all _ (by omega)]
  obtain ⟨r1, r2, r3, r4, r5, r6⟩ := read_rest (y := y.take x.packet) 60
  have hW' : (y.hear x).W = y.W := by
    unfold EnS.hear EnS.read
    rw [if_neg (by decide)]
    show (y.take x.packet).W = _
    rw [c, fW.1]
  have hadd : addE y.came x.made.length = 0 ∧ (y.hear x).came = addL y.came x.made.length := by
    have hc : (y.hear x).came = addL y.came x.made.length := by unfold EnS.hear; rw [r6, c, f6]
    refine ⟨?_, hc⟩
    have hmn : MayBe ((x.made.length : Nat) : Int) := ⟨by omega, by omega⟩
    rcases addE_or h.pr.oy.cm hmn with h4 | h4
    · exact h4
    · have hn : addL y.came x.made.length = [] := by unfold addL; rw [if_neg (by omega)]
      have f := Fly.made h.pr.ox hm
      have hp2 := h.pr.make
      rcases take_fly hp2.ox hp2.oy hp2.xy hp2.yx f (by show (x.made ++ [x.pieces]).length ≤ _; simp) hm with ⟨a, _⟩ | ⟨_, _, a, _⟩ | ⟨_, ha, _⟩
      · rw [new_num h.pr.xy] at a; cases a
      · exact absurd a he
      · exact ha
  have hmx : (m' : Nat) → m' = max m x.last → (m' = x.data.size ∨ (y.hear x).L = m' + (y.hear x).W) ∧ (x.may ≤ m' ∨ m' = x.data.size) := by
    rintro m' rfl
    by_cases hfull : max m x.last = x.data.size
    · exact ⟨Or.inl hfull, Or.inr hfull⟩
    · have hyL : y.L = m + y.W := by
        rcases h.li with h1 | h1
        · omega
        · exact h1
      obtain ⟨w1, w2, r1, k1, k2, l1, l2, lo, hi⟩ := hcr
      have hla : x.last = min x.data.size x.may.toNat := rfl
      rw [hL', hW', hk]
      unfold limitN
      rcases h.my with h1 | h1 | ⟨h1, h2⟩
      · have : max m x.last = m := by omega
        rw [this, if_neg (by omega)]
        exact ⟨Or.inr (by omega), Or.inl h1⟩
      · omega
      · rw [if_pos (by omega)]
        exact ⟨Or.inr (by omega), Or.inl (by omega)⟩
  obtain ⟨hx1, hx2⟩ := hmx _ rfl
  refine ⟨max m x.last, ⟨pe.symm, by rw [q4]; exact h.em, h.td, by omega, fun j => ?_, ht', ?_, hx1, ?_⟩, by omega, fun e1 e2 => ?_, q5, hW', hadd.2, hadd.1⟩
  · have : (y.hear x).M = M' := by unfold EnS.hear; rw [r1, c, f5]
    rw [this]; exact hM2 j
  · show max m x.last ≤ x.data.size; omega
  · rcases hx2 with h1 | h1
    · exact Or.inl h1
    · exact Or.inr (Or.inl h1)
  · have hla : x.last = min x.data.size x.may.toNat := rfl
    obtain ⟨w1, w2, r1, k1, k2, l1, l2, lo, hi⟩ := hcr
    rcases h.li with h1 | h1 <;> omega
/-- y's packet came to x -/
theorem Lo.back {x y : EnS} {a m : Nat} (h : Lo x y a m) (hm : y.made.length ≤ 1000000) (he : x.takeE y.packet ≠ 4) :
    Lo (x.take y.packet) y.make m m ∧ (x.take y.packet).may = y.L ∧ (x.take y.packet).data = x.data ∧ (x.take y.packet).made = x.made ∧ (x.take y.packet).came = addL x.came y.made.length ∧ addE x.came y.made.length = 0 := by
  have f := Fly.made h.pr.oy hm
  have hp2 := h.pr.symm.make
  have hadd : addE x.came y.made.length = 0 := by
    rcases take_fly hp2.ox hp2.oy hp2.xy hp2.yx f (by show (y.made ++ [y.pieces]).length ≤ _; simp) hm with ⟨a, _⟩ | ⟨_, _, a, _⟩ | ⟨_, ha, _⟩
    · rw [new_num h.pr.yx] at a; cases a
    · exact absurd a he
    · exact ha
  obtain ⟨e0, C', M', c, hp, hf, hM⟩ := send_take h.pr.symm hm he
  obtain ⟨f1, f2, f3, f4, f5, f6, f7, f8, f9⟩ := got_fields x y.made.length y.came y.L C' M'
  have hmy : (x.take y.packet).may = y.L := hf.2
  have hd : (x.take y.packet).data = x.data := by rw [c, f1]
  refine ⟨⟨hp.symm, h.em, fun j => ?_, Nat.le_refl _, h.mm, h.tm, by rw [hd]; exact h.ml, by rw [hd]; exact h.li, Or.inr (Or.inr ⟨rfl, hmy⟩)⟩, hmy, hd, by rw [c, f2], by rw [c, f6], hadd⟩
  have h1 := hf.1 j
  have h2 := hp.yx.tl j
  have h3 : (Plc.at y.make.M j).isSome = decide (j < m) := h.mm j
  rw [h3] at h1 h2
  cases hb : decide (j < m) with
  | true => exact h1 hb
  | false =>
    cases hc : tat (x.take y.packet).told j with
    | false => rfl
    | true => have := h2 hc; rw [hb] at this; cases this
theorem Lo.start {n : Int} (h1 : 1 ≤ n) (h2 : n ≤ 1000) (d : ByteArray) (hd : d.size ≤ 60) : Lo ((EnS.new n).write d) (EnS.new n) 0 0 := by
  have e : ((EnS.new n).write d) = { EnS.new n with data := d } := by
    unfold EnS.write
    rw [if_neg (by show ¬ 60 < 0 + d.size; omega)]
    have : (⟨#[]⟩ : ByteArray) ++ d = d := ByteArray.empty_append
    show ({ EnS.new n with data := (⟨#[]⟩ : ByteArray) ++ d } : EnS) = _
    rw [this]
  refine ⟨(Pair.new h1 h2).write d, rfl, fun j => ?_, Nat.le_refl _, fun j => ?_, rfl, by omega, Or.inr ?_, Or.inr (Or.inr ⟨rfl, by rw [e]; rfl⟩)⟩
  · rw [e]
    show tat (List.replicate 60 false) j = _
    unfold tat
    simp only [List.getD, List.getElem?_replicate]
    split <;> simp
  · show (Plc.at Plc.new j).isSome = _
    rw [Plc.new_at]; simp
  · show n = ((0 : Nat) : Int) + n; omega
end Go.Proofs.YtmfbaijbigodkaaGreatDoor

/-! Plain words on two ends over a link that loses nothing: a round there and back; the first packet of all; what is refused changes nothing. No program here. -/
namespace Go.Proofs.YtmfbaijbigodkaaGreatDoor
open Go.ChangeShapes Go.WideShapes Go.ChangeAt Go.RowKit
set_option linter.unusedVariables false

/-- the first packet of one comes to one to whom nothing came -/
theorem first_open {x : EnS} (h : EnOk x) (h0 : x.made = []) (hk : x.known = -1) : openE x.packet 0 = 0 ∧ openN x.packet 0 = 0 ∧ openL x.packet 0 = x.frames := by
  have hp := h.packetOk (by rw [h0]; show 0 ≤ 1000000; omega)
  have hl : (x.made.length : Int) = 0 := by rw [h0]; rfl
  rw [hl, hk] at hp
  have := open_about (next := 0) hp.1 ⟨by omega, by omega⟩ (by omega) (by omega)
  have e : x.packet = pktB 0 (-1) x.frames := by unfold EnS.packet; rw [hl, hk]
  rw [e]
  exact ⟨this.1, this.2.1, this.2.2.1⟩
theorem first_take {x y : EnS} (h : EnOk x) (h0 : x.made = []) (hk : x.known = -1) (hy : y.came = []) : y.takeE x.packet = y.pktE 0 x.frames ∧ y.take x.packet = y.pkt 0 x.frames := by
  obtain ⟨o1, o2, o3⟩ := first_open h h0 hk
  have hn : nextN y.came = 0 := by rw [hy]; rfl
  unfold EnS.takeE EnS.take
  rw [hn, o1, o2, o3]
  exact ⟨if_pos rfl, if_pos rfl⟩
/-- what an end is when data was written -/
theorem new_write {n : Int} {d : ByteArray} (hd : d.size ≤ 60) : (EnS.new n).write d = { EnS.new n with data := d } ∧ (EnS.new n).writeE d = 0 := by
  have hz : ¬ 60 < (EnS.new n).data.size + d.size := by show ¬ 60 < 0 + d.size; omega
  refine ⟨?_, by unfold EnS.writeE; rw [if_neg hz]⟩
  unfold EnS.write
  rw [if_neg hz]
  have : (⟨#[]⟩ : ByteArray) ++ d = d := ByteArray.empty_append
  show ({ EnS.new n with data := (⟨#[]⟩ : ByteArray) ++ d } : EnS) = _
  rw [this]
/-- so many rounds went well -/
structure Rnd (x y : EnS) (i : Nat) : Prop where
  lo : ∃ m, Lo x y m m ∧ min x.data.size (i * y.W.toNat) ≤ m
  fr : x.may = y.L
  gx : Gaps y.came x.made.length 0
  gy : Gaps x.came y.made.length 0
  mx : x.made.length = i
  my : y.made.length = i
theorem Rnd.start {n : Int} (h1 : 1 ≤ n) (h2 : n ≤ 1000) {d : ByteArray} (hd : d.size ≤ 60) : Rnd ((EnS.new n).write d) (EnS.new n) 0 := by
  have e := (new_write (n := n) hd).1
  refine ⟨⟨0, Lo.start h1 h2 d hd, by omega⟩, by rw [e]; rfl, by rw [e]; exact Gaps.new, by rw [e]; exact Gaps.new, by rw [e]; rfl, rfl⟩
theorem not4 {s : EnS} {x : EnS} (h : Pair x s) (hm : x.made.length ≤ 1000000) (ha : addE s.came x.made.length = 0) : s.takeE x.packet ≠ 4 := by
  have f := Fly.made h.ox hm
  have hp := h.make
  rcases take_fly hp.ox hp.oy hp.xy hp.yx f (by show (x.made ++ [x.pieces]).length ≤ _; simp) hm with ⟨_, a, _⟩ | ⟨_, a, _⟩ | ⟨_, _, a, _⟩
  · rw [a]; decide
  · rw [ha] at a; cases a
  · rw [a]; decide
theorem took0 {s : EnS} {x : EnS} (h : Pair x s) (hm : x.made.length ≤ 1000000) (ha : addE s.came x.made.length = 0) : s.takeE x.packet = 0 := (send_take h hm (not4 h hm ha)).1
theorem Rnd.next {x y : EnS} {i : Nat} (h : Rnd x y i) (hi : i ≤ 1000) :
    y.takeE x.packet = 0 ∧ x.make.takeE (y.hear x).packet = 0 ∧ Rnd (x.make.take (y.hear x).packet) (y.hear x).make (i + 1) ∧ (y.hear x).W = y.W ∧ (x.make.take (y.hear x).packet).data = x.data ∧ (y.hear x).data = y.data := by
  obtain ⟨m, hlo, hm⟩ := h.lo
  have hmx : x.made.length ≤ 1000000 := by rw [h.mx]; omega
  have ha := h.gx.fits hlo.pr.oy.cm hmx (by omega)
  have n4 := not4 hlo.pr hmx ha
  obtain ⟨m', l1, l2, l3, l4, l5, l6, l7⟩ := hlo.hear hmx n4
  have hmy : (y.hear x).made.length ≤ 1000000 := by rw [l4, h.my]; omega
  have hgy : Gaps x.make.came (y.hear x).made.length 0 := by rw [l4]; exact h.gy
  have hb := hgy.fits l1.pr.ox.cm hmy (by omega)
  have n5 := not4 l1.pr.symm hmy hb
  obtain ⟨b1, b2, b3, b4, b5, b6⟩ := l1.back hmy n5
  have hd := exchange hlo.pr hmx n4
  refine ⟨took0 hlo.pr hmx ha, took0 l1.pr.symm hmy hb, ⟨⟨m', b1, ?_⟩, b2, ?_, ?_, ?_, ?_⟩, l5, b3, hd.2.2.2.1⟩
  · have h3 := l3 rfl h.fr
    rw [b3]
    show min x.data.size ((i + 1) * (y.hear x).W.toNat) ≤ m'
    rw [l5, Nat.add_mul, Nat.one_mul]
    omega
  · show Gaps (y.hear x).came _ 0
    rw [b4, l6]
    show Gaps _ (x.made ++ [x.pieces]).length 0
    rw [List.length_append]
    exact h.gx.come hlo.pr.oy.cm ha (came_lt hlo.pr.xy)
  · rw [b5]
    show Gaps _ ((y.hear x).made ++ [(y.hear x).pieces]).length 0
    rw [List.length_append]
    exact hgy.come l1.pr.ox.cm hb (came_lt l1.pr.yx)
  · rw [b4]
    show (x.made ++ [x.pieces]).length = i + 1
    rw [List.length_append, h.mx]; rfl
  · show ((y.hear x).made ++ [(y.hear x).pieces]).length = i + 1
    rw [List.length_append, l4, h.my]; rfl
/-- a packet that came already comes again -/
theorem again {x y : EnS} (h : Pair x y) (hm : x.made.length ≤ 90) (ha : addE y.came x.made.length = 0) : (y.take x.packet).takeE x.packet = 0 ∧ (y.take x.packet).take x.packet = y.take x.packet := by
  have n4 := not4 h (by omega) ha
  obtain ⟨e0, C', M', c, hp, hf, hM⟩ := send_take h (by omega) n4
  have f := Fly.made h.ox (by omega)
  have hi : inB (y.take x.packet).came (x.made.length : Int) = true := by
    rw [c, (got_fields y x.made.length x.came x.L C' M').2.2.2.2.2.1, addL_in h.oy.cm ha]; simp
  rcases take_fly hp.ox hp.oy hp.xy hp.yx f (by show (x.made ++ [x.pieces]).length ≤ _; simp) (by omega) with ⟨_, a, b⟩ | ⟨a, _⟩ | ⟨a, _⟩
  · exact ⟨a, b⟩
  · rw [hi] at a; cases a
  · rw [hi] at a; cases a
end Go.Proofs.YtmfbaijbigodkaaGreatDoor

/-! Plain law for two ends that talk over a link that loses, doubles and turns round: each letter is a packet of its sender; what is read is a beginning of what was written. No program here. -/
namespace Go.Proofs.YtmfbaijbigodkaaGreatDoor
open Go.ChangeShapes Go.WideShapes Go.ChangeAt Go.RowKit
set_option linter.unusedVariables false

/-- these bytes are a packet of x -/
def Of1 (x : EnS) (b : List UInt8) : Prop := ∃ n k A Lc ps, Fly x b n k A Lc ps
theorem Of1.grows {x x' : EnS} {b : List UInt8} (h : Of1 x b) (g : Grows x x') : Of1 x' b := by
  obtain ⟨n, k, A, Lc, ps, f⟩ := h
  exact ⟨n, k, A, Lc, ps, f.grows g⟩
/-- two that talk, behind i steps -/
structure Tkg (s : TkS) (i : Nat) : Prop where
  pr : Pair s.e0 s.e1
  m0 : s.e0.made.length ≤ i
  m1 : s.e1.made.length ≤ i
  f1 : ∀ l ∈ s.L, l.too = 1 → Of1 s.e0 l.b.data.toList
  f0 : ∀ l ∈ s.L, l.too = 0 → Of1 s.e1 l.b.data.toList
  wh : ∀ l ∈ s.L, whoB l.too = true
/-- what who read -/
def TkS.got (s : TkS) (who : Int) : ByteArray := (s.e (1 - who)).data.extract 0 (s.e who).t
theorem Tkg.start {n : Int} (h1 : 1 ≤ n) (h2 : n ≤ 1000) : Tkg (TkS.new n) 0 := ⟨Pair.new h1 h2, Nat.le_refl _, Nat.le_refl _, fun l hl => by simp [TkS.new] at hl, fun l hl => by simp [TkS.new] at hl, fun l hl => by simp [TkS.new] at hl⟩
theorem Tkg.more {s : TkS} {i j : Nat} (h : Tkg s i) (hj : i ≤ j) : Tkg s j := ⟨h.pr, Nat.le_trans h.m0 hj, Nat.le_trans h.m1 hj, h.f1, h.f0, h.wh⟩
theorem Tkg.up0 {s : TkS} {i j : Nat} (h : Tkg s i) (hj : i ≤ j) {x : EnS} {L : List Let} (hp : Pair x s.e1) (hg : Grows s.e0 x) (hm : x.made.length ≤ j) (hL : ∀ l ∈ L, l ∈ s.L ∨ (l.too = 1 ∧ Of1 x l.b.data.toList)) : Tkg ⟨L, x, s.e1⟩ j := by
  refine ⟨hp, hm, Nat.le_trans h.m1 hj, fun l hl ht => ?_, fun l hl ht => ?_, fun l hl => ?_⟩
  · rcases hL l hl with h1 | ⟨_, h1⟩
    · exact (h.f1 l h1 ht).grows hg
    · exact h1
  · rcases hL l hl with h1 | ⟨h1, _⟩
    · exact h.f0 l h1 ht
    · omega
  · rcases hL l hl with h1 | ⟨h1, _⟩
    · exact h.wh l h1
    · exact whoB_iff.2 (Or.inr h1)
theorem Tkg.up1 {s : TkS} {i j : Nat} (h : Tkg s i) (hj : i ≤ j) {x : EnS} {L : List Let} (hp : Pair s.e0 x) (hg : Grows s.e1 x) (hm : x.made.length ≤ j) (hL : ∀ l ∈ L, l ∈ s.L ∨ (l.too = 0 ∧ Of1 x l.b.data.toList)) : Tkg ⟨L, s.e0, x⟩ j := by
  refine ⟨hp, Nat.le_trans h.m0 hj, hm, fun l hl ht => ?_, fun l hl ht => ?_, fun l hl => ?_⟩
  · rcases hL l hl with h1 | ⟨h1, _⟩
    · exact h.f1 l h1 ht
    · omega
  · rcases hL l hl with h1 | ⟨_, h1⟩
    · exact (h.f0 l h1 ht).grows hg
    · exact h1
  · rcases hL l hl with h1 | ⟨h1, _⟩
    · exact h.wh l h1
    · exact whoB_iff.2 (Or.inl h1)
/-- what was read is a beginning -/
theorem Tkg.begin0 {s : TkS} {i : Nat} (h : Tkg s i) : s.e0.t ≤ s.e1.data.size := (read_text h.pr.symm 0).1
theorem Tkg.begin1 {s : TkS} {i : Nat} (h : Tkg s i) : s.e1.t ≤ s.e0.data.size := (read_text h.pr 0).1
theorem write_same (x : EnS) (d : ByteArray) : (x.write d).made = x.made ∧ (x.write d).t = x.t := by unfold EnS.write; split <;> simp
theorem write_data (x : EnS) (d : ByteArray) : (x.write d).data = if x.writeE d = 0 then x.data ++ d else x.data := by
  unfold EnS.write EnS.writeE
  split
  · rfl
  · rfl
theorem write_begin {x : EnS} {t : Nat} (h : t ≤ x.data.size) (d : ByteArray) : (x.write d).data.extract 0 t = x.data.extract 0 t := by
  rw [write_data]
  split
  · exact extract_app h
  · rfl
/-- behind Write -/
theorem Tkg.write {s : TkS} {i : Nat} (h : Tkg s i) (who : Int) (d : ByteArray) : Tkg (s.write who d) (i + 1) ∧ (s.write who d).got 0 = s.got 0 ∧ (s.write who d).got 1 = s.got 1 ∧
    (s.write who d).e0.data = (if who = 0 ∧ s.writeE who d = 0 then s.e0.data ++ d else s.e0.data) ∧ (s.write who d).e1.data = (if who = 1 ∧ s.writeE who d = 0 then s.e1.data ++ d else s.e1.data) := by
  cases hw : whoB who with
  | false =>
    have e : s.write who d = s := by unfold TkS.write; rw [hw]; rfl
    have hn : ¬ (who = 0 ∨ who = 1) := fun h0 => by rw [whoB_iff.2 h0] at hw; cases hw
    rw [e]
    exact ⟨h.more (by omega), rfl, rfl, by rw [if_neg (fun h0 => hn (Or.inl h0.1))], by rw [if_neg (fun h0 => hn (Or.inr h0.1))]⟩
  | true =>
    rcases whoB_iff.1 hw with rfl | rfl
    · have e : s.write 0 d = ⟨s.L, s.e0.write d, s.e1⟩ := rfl
      have e2 : s.writeE 0 d = s.e0.writeE d := rfl
      rw [e, e2]
      refine ⟨h.up0 (by omega) (h.pr.write d) (Grows.write _ d) (by rw [(write_same s.e0 d).1]; have := h.m0; omega) (fun l hl => Or.inl hl), ?_, ?_, ?_, ?_⟩
      · show s.e1.data.extract 0 (s.e0.write d).t = s.e1.data.extract 0 s.e0.t
        rw [(write_same s.e0 d).2]
      · exact write_begin h.begin1 d
      · show (s.e0.write d).data = _
        rw [write_data]
        simp
      · rw [if_neg (by rintro ⟨h0, _⟩; cases h0)]
    · have e : s.write 1 d = ⟨s.L, s.e0, s.e1.write d⟩ := rfl
      have e2 : s.writeE 1 d = s.e1.writeE d := rfl
      rw [e, e2]
      refine ⟨h.up1 (by omega) (h.pr.symm.write d).symm (Grows.write _ d) (by rw [(write_same s.e1 d).1]; have := h.m1; omega) (fun l hl => Or.inl hl), ?_, ?_, ?_, ?_⟩
      · exact write_begin h.begin0 d
      · show s.e0.data.extract 0 (s.e1.write d).t = s.e0.data.extract 0 s.e1.t
        rw [(write_same s.e1 d).2]
      · rw [if_neg (by rintro ⟨h0, _⟩; cases h0)]
      · show (s.e1.write d).data = _
        rw [write_data]
        simp
/-- behind Read -/
theorem Tkg.read {s : TkS} {i : Nat} (h : Tkg s i) (who n : Int) : Tkg (s.read who n) (i + 1) ∧ (s.read who n).e0.data = s.e0.data ∧ (s.read who n).e1.data = s.e1.data ∧
    (s.read who n).got 0 = (if who = 0 then s.got 0 ++ s.readS who n else s.got 0) ∧ (s.read who n).got 1 = (if who = 1 then s.got 1 ++ s.readS who n else s.got 1) := by
  cases hw : whoB who with
  | false =>
    have e : s.read who n = s := by unfold TkS.read; rw [hw]; rfl
    have hn : ¬ (who = 0 ∨ who = 1) := fun h0 => by rw [whoB_iff.2 h0] at hw; cases hw
    rw [e]
    exact ⟨h.more (by omega), rfl, rfl, by rw [if_neg (fun h0 => hn (Or.inl h0))], by rw [if_neg (fun h0 => hn (Or.inr h0))]⟩
  | true =>
    rcases whoB_iff.1 hw with rfl | rfl
    · have e : s.read 0 n = ⟨s.L, s.e0.read n, s.e1⟩ := rfl
      obtain ⟨r1, r2, r3, r4, r5, r6⟩ := read_rest (y := s.e0) n
      rw [e]
      refine ⟨h.up0 (by omega) (h.pr.read n) (Grows.read h.pr.ox n) (by rw [r5]; have := h.m0; omega) (fun l hl => Or.inl hl), r4, rfl, ?_, ?_⟩
      · rw [if_pos rfl]
        exact (read_text h.pr.symm n).2.symm
      · rw [if_neg (by decide)]
        show (s.e0.read n).data.extract 0 s.e1.t = s.e0.data.extract 0 s.e1.t
        rw [r4]
    · have e : s.read 1 n = ⟨s.L, s.e0, s.e1.read n⟩ := rfl
      obtain ⟨r1, r2, r3, r4, r5, r6⟩ := read_rest (y := s.e1) n
      rw [e]
      refine ⟨h.up1 (by omega) (h.pr.symm.read n).symm (Grows.read h.pr.oy n) (by rw [r5]; have := h.m1; omega) (fun l hl => Or.inl hl), rfl, r4, ?_, ?_⟩
      · rw [if_neg (by decide)]
        show (s.e1.read n).data.extract 0 s.e0.t = s.e1.data.extract 0 s.e0.t
        rw [r4]
      · rw [if_pos rfl]
        exact (read_text h.pr n).2.symm
/-- nothing is read, nothing written -/
structure Calm_ (s s' : TkS) : Prop where
  d0 : s'.e0.data = s.e0.data
  d1 : s'.e1.data = s.e1.data
  t0 : s'.e0.t = s.e0.t
  t1 : s'.e1.t = s.e1.t
theorem Calm_.got {s s' : TkS} (h : Calm_ s s') : s'.got 0 = s.got 0 ∧ s'.got 1 = s.got 1 := by
  refine ⟨?_, ?_⟩
  · show s'.e1.data.extract 0 s'.e0.t = s.e1.data.extract 0 s.e0.t
    rw [h.d1, h.t0]
  · show s'.e0.data.extract 0 s'.e1.t = s.e0.data.extract 0 s.e1.t
    rw [h.d0, h.t1]
theorem Calm_.refl (s : TkS) : Calm_ s s := ⟨rfl, rfl, rfl, rfl⟩
theorem bytes_of (l : List UInt8) : (⟨l.toArray⟩ : ByteArray).data.toList = l := by simp
theorem Tkg.send {s : TkS} {i : Nat} (h : Tkg s i) (hi : i ≤ 1000) (who : Int) : Tkg (s.send who) (i + 1) ∧ Calm_ s (s.send who) := by
  by_cases he : s.sendE who = 0
  · have hw : whoB who = true := by
      cases hw : whoB who with
      | true => rfl
      | false => unfold TkS.sendE at he; rw [hw] at he; cases he
    have e : s.send who = { s.set who (s.e who).make with L := s.L ++ [⟨1 - who, ⟨(s.e who).packet.toArray⟩⟩] } := by unfold TkS.send; rw [if_pos he]
    rw [e]
    rcases whoB_iff.1 hw with rfl | rfl
    · refine ⟨h.up0 (x := s.e0.make) (L := s.L ++ [⟨1, ⟨s.e0.packet.toArray⟩⟩]) (by omega) h.pr.make (Grows.make _) ?_ (fun l hl => ?_), ⟨rfl, rfl, rfl, rfl⟩⟩
      · show (s.e0.made ++ [s.e0.pieces]).length ≤ _
        rw [List.length_append]; have := h.m0; simp; omega
      · rcases List.mem_append.1 hl with h1 | h1
        · exact Or.inl h1
        · rw [List.mem_singleton.1 h1]
          refine Or.inr ⟨rfl, ?_⟩
          show Of1 s.e0.make (⟨s.e0.packet.toArray⟩ : ByteArray).data.toList
          rw [bytes_of]
          exact ⟨_, _, _, _, _, Fly.made h.pr.ox (by have := h.m0; omega)⟩
    · refine ⟨h.up1 (x := s.e1.make) (L := s.L ++ [⟨0, ⟨s.e1.packet.toArray⟩⟩]) (by omega) h.pr.symm.make.symm (Grows.make _) ?_ (fun l hl => ?_), ⟨rfl, rfl, rfl, rfl⟩⟩
      · show (s.e1.made ++ [s.e1.pieces]).length ≤ _
        rw [List.length_append]; have := h.m1; simp; omega
      · rcases List.mem_append.1 hl with h1 | h1
        · exact Or.inl h1
        · rw [List.mem_singleton.1 h1]
          refine Or.inr ⟨rfl, ?_⟩
          show Of1 s.e1.make (⟨s.e1.packet.toArray⟩ : ByteArray).data.toList
          rw [bytes_of]
          exact ⟨_, _, _, _, _, Fly.made h.pr.oy (by have := h.m1; omega)⟩
  · have e : s.send who = s := by unfold TkS.send; rw [if_neg he]
    rw [e]
    exact ⟨h.more (by omega), Calm_.refl _⟩
theorem take_same {x y : EnS} (h : Pair x y) {b : List UInt8} {n : Nat} {k : Int} {A : List Rng} {Lc : Int} {ps : List Pc} (f : Fly x b n k A Lc ps) (hn : x.made.length ≤ n + 100) (hm : n ≤ 1000000) :
    (y.take b).data = y.data ∧ (y.take b).made = y.made ∧ (y.take b).t = y.t := by
  rcases take_fly h.ox h.oy h.xy h.yx f hn hm with ⟨_, a, c⟩ | ⟨_, _, a, c⟩ | ⟨_, ha, a, C', M', c, r2, r3⟩
  · rw [c]; exact ⟨rfl, rfl, rfl⟩
  · rw [c]; exact ⟨rfl, rfl, rfl⟩
  · obtain ⟨e1, e2, e3, e4, e5, e6, e7, e8, e9⟩ := got_fields y n A Lc C' M'
    rw [c]; exact ⟨e1, e2, e4⟩
theorem Fly.few {x : EnS} {b : List UInt8} {n : Nat} {k : Int} {A : List Rng} {Lc : Int} {ps : List Pc} (f : Fly x b n k A Lc ps) : n < x.made.length := (List.getElem?_eq_some_iff.1 f.at_).1
/-- behind Come -/
theorem Tkg.come {s : TkS} {i : Nat} (h : Tkg s i) (hi : i ≤ 100) (j : Int) : Tkg (s.come j) (i + 1) ∧ Calm_ s (s.come j) := by
  cases hb : isB s.L j with
  | false =>
    have e : s.come j = s := by unfold TkS.come; rw [hb]; rfl
    rw [e]
    exact ⟨h.more (by omega), Calm_.refl _⟩
  | true =>
    have e : s.come j = { s.set (giveD s.L j).too ((s.e (giveD s.L j).too).take (giveD s.L j).b.data.toList) with L := giveL s.L j } := by unfold TkS.come; rw [if_pos hb]
    have hmem := giveD_mem hb
    rw [e]
    obtain ⟨⟨tz, b⟩, hd⟩ : ∃ d, giveD s.L j = d := ⟨_, rfl⟩
    rw [hd] at hmem
    rw [hd]
    rcases whoB_iff.1 (h.wh _ hmem) with h0 | h0
    · dsimp only at h0 ⊢
      subst h0
      obtain ⟨n, k, A, Lc, ps, f⟩ := h.f0 _ hmem rfl
      have hf := f.few
      have hm1 := h.m1
      obtain ⟨a, g, _⟩ := h.pr.symm.take f (by omega) (by omega)
      obtain ⟨d1, d2, d3⟩ := take_same h.pr.symm f (by omega) (by omega)
      exact ⟨h.up0 (x := s.e0.take b.data.toList) (L := giveL s.L j) (by omega) a.symm g (by rw [d2]; have := h.m0; omega) (fun l hl => Or.inl (giveL_sub.2 l hl)), ⟨d1, rfl, d3, rfl⟩⟩
    · dsimp only at h0 ⊢
      subst h0
      obtain ⟨n, k, A, Lc, ps, f⟩ := h.f1 _ hmem rfl
      have hf := f.few
      have hm0 := h.m0
      obtain ⟨a, g, _⟩ := h.pr.take f (by omega) (by omega)
      obtain ⟨d1, d2, d3⟩ := take_same h.pr f (by omega) (by omega)
      exact ⟨h.up1 (x := s.e1.take b.data.toList) (L := giveL s.L j) (by omega) a g (by rw [d2]; have := h.m1; omega) (fun l hl => Or.inl (giveL_sub.2 l hl)), ⟨rfl, d1, rfl, d3⟩⟩
/-- the link is good again: behind i exchanges -/
structure Good_ (s : TkS) (i : Nat) : Prop where
  no : s.L = []
  ex : ∃ ka kb, (if i % 2 = 0 then Going i s.e0 s.e1 ka kb else Going i s.e1 s.e0 ka kb) ∧ kb ≤ ka ∧ ka ≤ kb + 1 ∧ i ≤ ka + kb + 2 ∧ (i ≤ 1 → ka = kb)
  m0 : s.e0.made.length ≤ 100 + i
  m1 : s.e1.made.length ≤ 100 + i
theorem Good_.start {s : TkS} {i : Nat} (h : Tkg s i) (hi : i ≤ 100) (hL : s.L = []) : Good_ s 0 :=
  ⟨hL, ⟨0, 0, by rw [if_pos (by rfl)]; exact Going.start h.pr, by omega, by omega, by omega, by omega⟩, by have := h.m0; omega, by have := h.m1; omega⟩
theorem one_way {a b : EnS} {i ka kb : Nat} (h : Going i a b ka kb) (hm : a.made.length ≤ 1000000) (he : b.takeE a.packet ≠ 4) :
    b.takeE a.packet = 0 ∧ Going (i + 1) ((b.take a.packet).read 60) a.make (if 2 ≤ i then kb + 1 else kb) ka ∧ ((b.take a.packet).read 60).data = b.data ∧ ((b.take a.packet).read 60).made = b.made ∧
    a.data.extract 0 b.t ++ (b.take a.packet).readS 60 = a.data.extract 0 ((b.take a.packet).read 60).t := by
  have hn := h.next hm he
  obtain ⟨e0, C', M', c, hp, hf, hM⟩ := send_take h.pr hm he
  obtain ⟨f1, f2, f3, f4, f5, f6, f7, f8, f9⟩ := got_fields b a.made.length a.came a.L C' M'
  obtain ⟨r1, r2, r3, r4, r5, r6⟩ := read_rest (y := b.take a.packet) 60
  have ht := (read_text hp 60).2
  rw [c, f4, ← c] at ht
  exact ⟨e0, hn, by rw [r4, c, f1], by rw [r5, c, f2], ht⟩
theorem Good_.next {s : TkS} {i : Nat} (h : Good_ s i) (hi : i ≤ 500) : (s.e ((i : Int) % 2)).made.length ≤ 1000 ∧ s.sendE ((i : Int) % 2) = 0 ∧ (s.send ((i : Int) % 2)).e0.made.length ≤ 1000 ∧ (s.send ((i : Int) % 2)).e1.made.length ≤ 1000 ∧
    (((s.send ((i : Int) % 2)).comeE 0 = 4) ∨ ((s.send ((i : Int) % 2)).comeE 0 = 0 ∧ TkS.readE (1 - (i : Int) % 2) 60 = 0 ∧ Good_ (((s.send ((i : Int) % 2)).come 0).read (1 - (i : Int) % 2) 60) (i + 1) ∧
      (((s.send ((i : Int) % 2)).come 0).read (1 - (i : Int) % 2) 60).e0.data = s.e0.data ∧ (((s.send ((i : Int) % 2)).come 0).read (1 - (i : Int) % 2) 60).e1.data = s.e1.data ∧
      (((s.send ((i : Int) % 2)).come 0).read (1 - (i : Int) % 2) 60).got (1 - (i : Int) % 2) = s.got (1 - (i : Int) % 2) ++ ((s.send ((i : Int) % 2)).come 0).readS (1 - (i : Int) % 2) 60 ∧
      (((s.send ((i : Int) % 2)).come 0).read (1 - (i : Int) % 2) 60).got ((i : Int) % 2) = s.got ((i : Int) % 2))) := by
  obtain ⟨L, a, b⟩ := s
  obtain ⟨hno, ⟨ka, kb, hg, hk1, hk2, hk3, hk4⟩, hm0, hm1⟩ := h
  dsimp only at hno hm0 hm1 hg
  subst hno
  rcases Nat.mod_two_eq_zero_or_one i with h2 | h2
  · have e2 : (i : Int) % 2 = 0 := by omega
    have e3 : (i + 1) % 2 ≠ 0 := by omega
    rw [e2]
    rw [if_pos h2] at hg
    have hs : TkS.send ⟨[], a, b⟩ 0 = ⟨[⟨1, ⟨a.packet.toArray⟩⟩], a.make, b⟩ := rfl
    have hc : TkS.come ⟨[⟨1, ⟨a.packet.toArray⟩⟩], a.make, b⟩ 0 = ⟨[], a.make, b.take a.packet⟩ := by
      show TkS.mk [] a.make (b.take (ByteArray.mk a.packet.toArray).data.toList) = _
      rw [bytes_of]
    have hce : TkS.comeE ⟨[⟨1, ⟨a.packet.toArray⟩⟩], a.make, b⟩ 0 = b.takeE a.packet := by
      show b.takeE (ByteArray.mk a.packet.toArray).data.toList = _
      rw [bytes_of]
    have hla : a.make.made.length = a.made.length + 1 := by show (a.made ++ [a.pieces]).length = _; rw [List.length_append]; rfl
    rw [hs, hc, hce]
    refine ⟨by show a.made.length ≤ 1000; omega, rfl, by show a.make.made.length ≤ 1000; omega, by show b.made.length ≤ 1000; omega, ?_⟩
    by_cases h4 : b.takeE a.packet = 4
    · exact Or.inl h4
    · obtain ⟨o1, o2, o3, o4, o5⟩ := one_way hg (by omega) h4
      refine Or.inr ⟨o1, rfl, ⟨rfl, ⟨_, _, by rw [if_neg e3]; exact o2, ?_, ?_, ?_, ?_⟩, by show a.make.made.length ≤ _; omega, by show ((b.take a.packet).read 60).made.length ≤ _; rw [o4]; omega⟩, rfl, o3, o5.symm, ?_⟩
      · split <;> omega
      · split <;> omega
      · split <;> omega
      · intro hh; split <;> omega
      · show ((b.take a.packet).read 60).data.extract 0 a.t = b.data.extract 0 a.t
        rw [o3]
  · have e2 : (i : Int) % 2 = 1 := by omega
    have e3 : (i + 1) % 2 = 0 := by omega
    rw [e2]
    rw [if_neg (by omega)] at hg
    have hs : TkS.send ⟨[], a, b⟩ 1 = ⟨[⟨0, ⟨b.packet.toArray⟩⟩], a, b.make⟩ := rfl
    have hc : TkS.come ⟨[⟨0, ⟨b.packet.toArray⟩⟩], a, b.make⟩ 0 = ⟨[], a.take b.packet, b.make⟩ := by
      show TkS.mk [] (a.take (ByteArray.mk b.packet.toArray).data.toList) b.make = _
      rw [bytes_of]
    have hce : TkS.comeE ⟨[⟨0, ⟨b.packet.toArray⟩⟩], a, b.make⟩ 0 = a.takeE b.packet := by
      show a.takeE (ByteArray.mk b.packet.toArray).data.toList = _
      rw [bytes_of]
    have hla : b.make.made.length = b.made.length + 1 := by show (b.made ++ [b.pieces]).length = _; rw [List.length_append]; rfl
    rw [hs, hc, hce]
    refine ⟨by show b.made.length ≤ 1000; omega, rfl, by show a.made.length ≤ 1000; omega, by show b.make.made.length ≤ 1000; omega, ?_⟩
    by_cases h4 : a.takeE b.packet = 4
    · exact Or.inl h4
    · obtain ⟨o1, o2, o3, o4, o5⟩ := one_way hg (by omega) h4
      refine Or.inr ⟨o1, rfl, ⟨rfl, ⟨_, _, by rw [if_pos e3]; exact o2, ?_, ?_, ?_, ?_⟩, by show ((a.take b.packet).read 60).made.length ≤ _; rw [o4]; omega, by show b.make.made.length ≤ _; omega⟩, o3, rfl, o5.symm, ?_⟩
      · split <;> omega
      · split <;> omega
      · split <;> omega
      · intro hh; split <;> omega
      · show ((a.take b.packet).read 60).data.extract 0 b.t = a.data.extract 0 b.t
        rw [o3]
/-- behind many all was read -/
theorem Good_.all {s : TkS} {i : Nat} (h : Good_ s i) (hi : 260 ≤ i) (he : i % 2 = 0) : s.got 0 = s.e1.data ∧ s.got 1 = s.e0.data := by
  obtain ⟨hno, ⟨ka, kb, hg, hk1, hk2, hk3, hk4⟩, hm0, hm1⟩ := h
  rw [if_pos he] at hg
  have d0 := hg.pr.ox.dz
  have d1 := hg.pr.oy.dz
  have ta := hg.ta
  have tb := hg.tb
  have t0 : s.e0.t ≤ s.e1.data.size := (read_text hg.pr.symm 0).1
  have t1 : s.e1.t ≤ s.e0.data.size := (read_text hg.pr 0).1
  have e0 : s.e0.t = s.e1.data.size := by omega
  have e1 : s.e1.t = s.e0.data.size := by omega
  refine ⟨?_, ?_⟩
  · show s.e1.data.extract 0 s.e0.t = _
    rw [e0]; exact ByteArray.extract_zero_size
  · show s.e0.data.extract 0 s.e1.t = _
    rw [e1]; exact ByteArray.extract_zero_size
end Go.Proofs.YtmfbaijbigodkaaGreatDoor

/-! Plain laws of sessions: the answers to a beginning are a beginning of the answers; and a session that is answered line by line. No program here. -/
namespace Go.Proofs.YtmfbaijbigodkaaGreatDoor
open Go.RowKit Go.Shelf
set_option linter.unusedVariables false

/-- what Run answers -/
noncomputable def runB (t : ByteArray) : ByteArray := if 3000 < t.size then bLong else ⟨(after (linesOf t.data.toList)).2.toArray⟩
/-- nothing, or it ends with a line's end -/
def Whole_ (p : List UInt8) : Prop := p = [] ∨ ∃ r, p = r ++ [10]
theorem lines_ne {b : UInt8} {r : List UInt8} : linesOf (b :: r) ≠ [] := by
  rw [linesOf]
  split
  · simp
  · split <;> simp
theorem lines_app : ∀ (p q : List UInt8), Whole_ p → linesOf (p ++ q) = linesOf p ++ linesOf q
  | [], q, _ => rfl
  | b :: r, q, h => by
    have hr : r = [] ∧ b = 10 ∨ (r ≠ [] ∧ Whole_ r) := by
      rcases h with h | ⟨u, hu⟩
      · cases h
      · cases u with
        | nil =>
          rw [List.nil_append] at hu
          injection hu with h1 h2
          exact Or.inl ⟨h2, h1⟩
        | cons c u =>
          rw [List.cons_append] at hu
          injection hu with h1 h2
          refine Or.inr ⟨by rw [h2]; simp, Or.inr ⟨u, h2⟩⟩
    rcases hr with ⟨rfl, rfl⟩ | ⟨hne, hw⟩
    · rw [List.singleton_append]
      show linesOf (10 :: q) = _
      rw [linesOf, if_pos rfl]
      rfl
    · have ih := lines_app r q hw
      rw [List.cons_append, linesOf, linesOf, ih]
      split
      · rfl
      · cases r with
        | nil => exact absurd rfl hne
        | cons c u =>
          have hl := lines_ne (b := c) (r := u)
          cases hc : linesOf (c :: u) with
          | nil => exact absurd hc hl
          | cons x xs => rfl
theorem lines_one {l : List UInt8} (r : List UInt8) (h : free 10 l) : linesOf (l ++ 10 :: r) = (l ++ [10]) :: linesOf r := by
  induction l with
  | nil => rw [List.nil_append, linesOf, if_pos rfl]; rfl
  | cons b l ih =>
    have hb : b ≠ 10 := h b (by simp)
    rw [List.cons_append, linesOf, if_neg hb, ih (fun x hx => h x (by simp [hx]))]
    rfl
theorem trim_end (l : List UInt8) : trim (l ++ [10]) = l := by
  unfold trim Lib.trimSuffix Lib.hasSuffix
  have : ([10] : List UInt8).isSuffixOf (l ++ [10]) = true := by
    rw [List.isSuffixOf_iff_suffix]
    exact List.suffix_append _ _
  rw [if_pos this, List.length_append]
  simp
theorem after_app (L R : List (List UInt8)) : (after (L ++ R)).2 = (after L).2 ++ anss (after L).1 (R.map trim) := by
  unfold after
  rw [List.map_append, anss_app]
/-- THE ANSWERS TO A BEGINNING -/
theorem begins {t : ByteArray} {k : Nat} (hk : k ≤ t.size) (ht : t.size ≤ 3000) (hw : k = t.size ∨ Whole_ (t.data.toList.take k)) :
    (runB (t.extract 0 k)).size ≤ (runB t).size ∧ (runB t).extract 0 (runB (t.extract 0 k)).size = runB (t.extract 0 k) := by
  have hsz : (t.extract 0 k).size = k := by rw [ByteArray.size_extract]; omega
  have hd : (t.extract 0 k).data.toList = t.data.toList.take k := by
    rw [ByteArray.data_extract, Array.toList_extract, List.extract_eq_take_drop, List.drop_zero, Nat.sub_zero]
  unfold runB
  rw [if_neg (by omega), if_neg (by omega), hd]
  have hpre : ∃ R, (after (linesOf t.data.toList)).2 = (after (linesOf (t.data.toList.take k))).2 ++ R := by
    rcases hw with rfl | hw
    · refine ⟨[], ?_⟩
      rw [List.append_nil, List.take_of_length_le (by rw [Array.length_toList]; exact Nat.le_refl _)]
    · have e : linesOf t.data.toList = linesOf (t.data.toList.take k) ++ linesOf (t.data.toList.drop k) := by
        rw [← lines_app _ _ hw, List.take_append_drop]
      exact ⟨_, by rw [e, after_app]⟩
  obtain ⟨R, hR⟩ := hpre
  rw [hR]
  generalize (after (linesOf (t.data.toList.take k))).2 = A
  rw [size_of, size_of]
  refine ⟨by rw [List.length_append]; omega, ?_⟩
  apply ByteArray.ext
  apply Array.ext'
  rw [ByteArray.data_extract, Array.toList_extract, List.extract_eq_take_drop, List.drop_zero, Nat.sub_zero]
  exact List.take_left
theorem ans_cmd {s : TkS} {l x : List UInt8} {ns : List Nat} {d : List UInt8} (hp : parse (cutAt 32 l) = some (x, ns, d)) : ans s l = (if (doW s x ns d).2.1 = 0 then (doW s x ns d).1 else eName (doW s x ns d).2.1, (doW s x ns d).2.2) := by
  unfold ans ansW
  rw [hp]
theorem ans_bad {s : TkS} {l : List UInt8} (hp : parse (cutAt 32 l) = none) : ans s l = (bBad, s) := by
  unfold ans ansW
  rw [hp]
theorem ans_ok {s s' : TkS} {l x : List UInt8} {ns : List Nat} {d : List UInt8} {X : ByteArray} (hp : parse (cutAt 32 l) = some (x, ns, d)) (hw : doW s x ns d = (X, 0, s')) : ans s l = (X, s') := by
  rw [ans_cmd hp, hw]
  rfl
theorem ans_no {s s' : TkS} {l x : List UInt8} {ns : List Nat} {d : List UInt8} {X : ByteArray} {e : Int} (he : e ≠ 0) (hp : parse (cutAt 32 l) = some (x, ns, d)) (hw : doW s x ns d = (X, e, s')) : ans s l = (eName e, s') := by
  rw [ans_cmd hp, hw]
  show (if e = 0 then X else eName e, s') = _
  rw [if_neg he]
end Go.Proofs.YtmfbaijbigodkaaGreatDoor

/-! Run at any session by one contract; the tables stay. Condition: the tables hold what the program's text lays. -/
namespace Go.Proofs.YtmfbaijbigodkaaGreatDoor
open Go.ChangeShapes Go.WideShapes Go.ChangeAt Go.RowKit
set_option linter.unusedVariables false

theorem RTabs.later {w w1 : World} (h : RTabs w) (hb : Below w.heap.size w w1) : RTabs w1 := ⟨h.e.later hb, h.k.later hb, h.c.later hb, h.p.later hb, h.s.later hb, cell_later hb h.u⟩
theorem prunB (t : ByteArray) (w : World) (T : RTabs w) : Calls Tryz.prog 36 #[.string t] w fun e w' => e = .returned (.string (runB t)) ∧ Since w w' := by
  unfold runB
  by_cases h : 3000 < t.size
  · rw [if_pos h]
    exact prun_long t h w
  · rw [if_neg h]
    exact prun t (by omega) w T
end Go.Proofs.YtmfbaijbigodkaaGreatDoor
