/- log.redo over whole records by a contract. Condition: the bytes are records one behind the other, of numbers each of which may be added. -/
import Derived.Test.YtjjmoaaongnjiaaGreatDoorLines
import Derived.Test.YtjjmoaaongnjiaaGreatDoorLog
import Derived.Lib.AtoiErrMem
namespace Go.Proofs.YtjjmoaaongnjiaaGreatDoor
open Go.ChangeShapes Go.WideShapes Go.ChangeAt Go.RowKit Go.Shelf
set_option linter.unusedVariables false
attribute [local go_sem] Oper.semAt_some

/-- the ranges of these numbers -/
def adds (ns : List Int) : List Rng := ns.foldl addL []
theorem adds_snoc (pre : List Int) (x : Int) : adds (pre ++ [x]) = addL (adds pre) x := by unfold adds; rw [List.foldl_append]; rfl
/-- each was new, and there was room -/
def Fits (ns : List Int) : Prop := ∀ k, k < ns.length → addB (adds (ns.take k)) (ns.getD k 0) = true
theorem Fits.rng {ns : List Int} (h : Fits ns) : ∀ k, k ≤ ns.length → rngE (adds (ns.take k)) = 0
  | 0, _ => rfl
  | k + 1, hk => by
    have h1 := h k (by omega)
    have e : ns.take (k + 1) = ns.take k ++ [ns.getD k 0] := by
      rw [List.take_succ_eq_append_getElem (by omega)]
      simp [List.getD, List.getElem?_eq_getElem (show k < ns.length by omega)]
    rw [e, adds_snoc]
    exact (addB_ok h1).2.2.2.1
theorem Fits.pos {ns : List Int} (h : Fits ns) : ∀ m ∈ ns, 0 ≤ m ∧ m ≤ 1073741823 := by
  intro m hm
  obtain ⟨k, hk, rfl⟩ := List.getElem_of_mem hm
  have h1 := (addB_ok (h k hk)).2.1
  have h2 := mayB_iff.1 h1
  have e : ns.getD k 0 = ns[k] := by simp [List.getD, List.getElem?_eq_getElem hk]
  rw [e] at h2
  exact h2
theorem lines_in (n : Nat) (s : ByteArray) (w : World) : CallsIn Fence.wide n Tryz.prog 35 #[.string s] w fun e w' => e = .returned (.func (.func 45) #[] #[.pointer (some ⟨w.heap.size, 0, none⟩)]) ∧ w' = w.alloc (.cells #[.string s] 9) := by
  refine callsIn_of_wp Tryz.func35 rfl trivial ?_ rfl
  simp only [Tryz.ntmps35, List.size_toArray, List.length_cons, List.length_nil, Nat.reduceAdd, Nat.reduceSub, Array.replicate_succ, Array.replicate_zero, List.push_toArray, List.append_toArray, List.nil_append, List.cons_append]
  gi_wp2
  go_ret
  exact ⟨rfl, rfl⟩
theorem lines_hands (ns : List Int) (hp : ∀ m ∈ ns, 0 ≤ m) (hb : (rcs ns).length ≤ 1000000) (n : Nat) (hn : 1 ≤ n) (gb : Nat) (w : World) (hc : BlockIs w gb 9 #[.string ⟨(rcs ns).toArray⟩]) :
    Hands Fence.wide n Tryz.prog 45 gb #[.pointer (some ⟨gb, 0, none⟩)] (fun x => #[rcv x]) (fun xs => xs = ns) (nextOf ns) w := by
  intro l J W hW hJ hY hj
  have hc2 := hc.later hW
  exact (lines1_in n hn gb ns hp hb l J W hJ hY (hc2.cell 0) (hc2.free 0) hj).mono fun e X ⟨h1, h2⟩ => ⟨h1, ns, rfl, h2⟩
theorem keeps_below {W X : World} (h : Below W.heap.size W X) : KeepsOthers W X := ⟨h.size, fun k o hk _ => (h.block k (Array.getElem?_eq_some_iff.1 hk).1).trans hk⟩
theorem cell_below {W X : World} {g : Nat} (h : Below W.heap.size W X) {v : Value} (hv : W.cell? ⟨g, 0, none⟩ = some v) (hf : W.frozen? ⟨g, 0, none⟩ = false) : X.cell? ⟨g, 0, none⟩ = some v ∧ X.frozen? ⟨g, 0, none⟩ = false := by
  have hlt : g < W.heap.size := World.block_lt_of_cell? W _ hv
  have e := h.block g hlt
  refine ⟨(h.cell (p := ⟨g, 0, none⟩) hlt).trans hv, ?_⟩
  unfold World.frozen? at hf ⊢
  rw [e]
  exact hf
theorem results_two {fn : Func} {p q : Tmp} {t u : TypeId} (h : fn.results = #[.cell p t, .cell q u]) (tmps : Array Value) (P : Program) (w : World) :
    (results fn tmps).run P w =
      ((asAddr (tmps.getD p undef)).run P w).andThen fun a w₁ => ((loadVar t a).run P w₁).andThen fun v w₂ => ((asAddr (tmps.getD q undef)).run P w₂).andThen fun b w₃ => ((loadVar u b).run P w₃).andThen fun v' w₄ => .ok (.tuple #[v, v']) w₄ := by
  simp only [results, h]
  simp [Sem.run_bind, Result.andThen]
theorem below_bytes (w : World) (e : TypeId) (s : ByteArray) : Below w.heap.size w (Lib.bytesWorld w e s) := Lib.bytesWorld_below w e s
/-- redo's state -/
structure Rdo (w : World) (pre : List Int) (W : World) : Prop where
  sz : w.heap.size + 4 ≤ W.heap.size
  r1 : BlockIs W w.heap.size 31 #[.slice none 0 0]
  r2 : BlockIs W (w.heap.size + 1) 26 #[.nilIface]
  bx : ∃ (A : Option Addr) (cap : Nat), BlockIs W (w.heap.size + 2) 31 #[.slice A (adds pre).length cap] ∧ Lst W 34 2 (.slice A (adds pre).length cap) ((adds pre).map rngRow) ∧ (∀ q, q ∈ blocks (.slice A 0 0) → w.heap.size + 4 ≤ q)
theorem boxes_grown {W W' : World} {g : Nat} {t : TypeId} {cs : Array Value} {row : Option Nat} (h : BlockIs W g t cs) (hg : W.grownBy W' row) (hr : ∀ r, row = some r → ∃ o : Obj, W.heap[r]? = some o ∧ o.isCells = false) : BlockIs W' g t cs :=
  (hg.block g h.lt (fun e => by
    obtain ⟨o, ho, hc⟩ := hr g e.symm
    rw [show W.heap[g]? = _ from h] at ho
    cases ho
    cases hc)).trans h
theorem rows_grown {W W' : World} {E size : Nat} {v : Value} {es : List (List Value)} {row : Option Nat} (h : Lst W E size v es) (hg : W.grownBy W' row) (hr : ∀ r, row = some r → ∃ o : Obj, W.heap[r]? = some o ∧ o.isCells = false) : Lst W' E size v es := by
  refine h.kept (Out.of_grown (S := row.toList) hg (fun k hk => Or.inl (by rw [hk]; simp))) (fun k hk hk2 => ?_)
  have hrow : row = some k := by simpa [Option.mem_toList] using hk2
  obtain ⟨o, ho, hc⟩ := hr k hrow
  rcases h.own.2 with ⟨rfl, _⟩ | ⟨g, cap, cur, rfl, _, hgg, _⟩
  · simp [Value.ownBlock] at hk
  · have : g = k := by simpa [Value.ownBlock] using hk
    subst this
    rw [hgg] at ho
    cases ho
    cases hc
theorem Rdo.own (w : World) : _root_.Go.Own (fun (pre : List Int) W => Rdo w pre W) := fun _ W W' row hs hg hr => by
  obtain ⟨A, cap, h1, h2, h3⟩ := hs.bx
  exact ⟨Nat.le_trans hs.sz hg.size, boxes_grown hs.r1 hg hr, boxes_grown hs.r2 hg hr, A, cap, boxes_grown h1 hg hr, rows_grown h2 hg hr, h3⟩
theorem Rdo.bears (w : World) : Bears (w.heap.size + 3) (fun (pre : List Int) W => Rdo w pre W ∧ Below w.heap.size w W) := by
  refine ⟨fun pre A h => ⟨⟨h.1.sz, h.1.r1, h.1.r2, ?_⟩, (show Since w A from h.2).drew⟩, fun pre A v h => ⟨⟨by simp; exact h.1.sz, h.1.r1.far (by simp) _, h.1.r2.far (by simp) _, ?_⟩, h.2.setCell (by simp) _⟩⟩
  · obtain ⟨B, cap, h1, h2, h3⟩ := h.1.bx
    exact ⟨B, cap, h1, h2.drew, h3⟩
  · obtain ⟨B, cap, h1, h2, h3⟩ := h.1.bx
    exact ⟨B, cap, h1.far (by simp) _, h2.kept ((Out.refl A [w.heap.size + 3]).put (Or.inl (by simp)) _) (fun k hk hm => by
      have := h3 k (by rw [blocks_any B 0 0 (adds pre).length cap]; exact hk)
      rw [List.mem_singleton.1 hm] at this
      omega), h3⟩

set_option maxRecDepth 100000 in
set_option maxHeartbeats 2000000 in
theorem redo_in (ns : List Int) (hfit : Fits ns) (hb : (rcs ns).length ≤ 1000000) (w : World) :
    CallsIn Fence.wide 6 Tryz.prog 23 #[.string ⟨(rcs ns).toArray⟩] w fun e w' => ∃ A cap, e = .returned (.tuple #[.slice A (adds ns).length cap, .nilIface]) ∧ Lst w' 34 2 (.slice A (adds ns).length cap) ((adds ns).map rngRow) ∧ Below w.heap.size w w' ∧ (∀ q, q ∈ blocks (.slice A 0 0) → w.heap.size ≤ q) := by
  have HF := Lib.hid hfit
  have HB := Lib.hid hb
  have HP := Lib.hid (fun m hm => (hfit.pos m hm).1)
  clear hfit hb
  obtain ⟨b, hbe⟩ : ∃ b : ByteArray, (⟨(rcs ns).toArray⟩ : ByteArray) = b := ⟨_, rfl⟩
  have HBE := Lib.hid hbe
  rw [hbe]
  clear hbe
  refine callsIn_of_wp_marks Tryz.func23 rfl trivial ?_ rfl
  simp only [Tryz.ntmps23, List.size_toArray, List.length_cons, List.length_nil, Nat.reduceAdd, Nat.reduceSub, Array.replicate_succ, Array.replicate_zero, List.push_toArray, List.append_toArray, List.nil_append, List.cons_append]
  trace "A"; gi_wp2_with (refine ⟨trivial, ?_⟩; gi_at_call 35; refine (lines_in _ _ _).mono ?_; rintro e w' ⟨rfl, rfl⟩)
  trace "B"; refine rangeW (w := (((w.alloc (.cells #[.slice none 0 0] 31)).alloc (.cells #[.nilIface] 26)).alloc (.cells #[.slice none 0 0] 31)).alloc (.cells #[.string b] 9)) rfl (by omega) (gf := 45) (gb := w.heap.size + 3) (lb := #[.pointer (some ⟨w.heap.size + 3, 0, none⟩)]) rfl trivial (enters_of Tryz.func45 (by kernel_rfl) rfl) (by simp)
    (lines_hands ns HP.out HB.out _ (by omega) (w.heap.size + 3) _ (by rw [HBE.out]; exact BlockIs.fresh_at (by simp))) (fun _ => rfl)
    (fun pre W => Rdo w pre W ∧ Below w.heap.size w W)
    (OwnFrom.and (_root_.Go.Own.from (Rdo.own w) _) (ownFrom_below (Nat.le_refl _) (by simp; omega)))
    (Rdo.bears w)
    ⟨⟨by simp, (((BlockIs.fresh w _ _).alloc _).alloc _).alloc _, ((BlockIs.fresh_at (by simp)).alloc _).alloc _, none, 0, (BlockIs.fresh_at (by simp)).alloc _, Lst.nil _ _ _, by simp [Value.ownBlock]⟩, (by refine Since.out ?_; repeat (first | with_reducible assumption | with_reducible exact Since.refl _ | with_reducible refine Since.later ?_ (by with_reducible assumption) | with_reducible refine Since.only ?_ (by with_reducible assumption) (by first | assumption | omega | (simp; done) | (simp; omega)) | with_reducible refine Since.alloc ?_ _ | with_reducible refine Since.drewN ?_ _ | with_reducible refine Since.drew ?_ | with_reducible refine Since.set ?_ (by first | assumption | omega | (simp; done) | (simp; omega)) _))⟩
    (fun x => { tmps := #[.string b, undef, .pointer (some ⟨w.heap.size, 0, none⟩), .pointer (some ⟨w.heap.size + 1, 0, none⟩), .pointer (some ⟨w.heap.size + 1 + 1, 0, none⟩), rcv x, undef, undef, undef, undef, .string b, .func (.func 45) #[] #[.pointer (some ⟨w.heap.size + 1 + 1 + 1, 0, none⟩)], rcv x, undef, undef, undef, undef, undef, undef, undef, undef, undef, undef, undef, undef, undef, undef, undef, undef, undef, undef, undef, undef, undef], defers := [] }) ?assign ?body ?done
  case assign =>
    trace "C"; intro l x W K hK
    gi_wp2
    exact hK
  case body =>
    trace "D"; rintro l pre x W ⟨hR, hbw⟩ hlen
    obtain ⟨k, hk, rfl, rfl⟩ := hlen
    have hfk := HF.out k hk
    obtain ⟨f1, f2, f3, f4, f5⟩ := addB_ok hfk
    have hps := HP.out (ns.getD k 0) (by simp [List.getD, List.getElem?_eq_getElem hk])
    have hrg := HF.out.rng k (by omega)
    have hsn : adds (ns.take k ++ [ns.getD k 0]) = addL (adds (ns.take k)) (ns.getD k 0) := adds_snoc _ _
    have hmx := (HF.out.pos (ns.getD k 0) (by simp [List.getD, List.getElem?_eq_getElem hk])).2
    obtain ⟨A, c, h1, h2, h3⟩ := hR.bx
    have HSN := Lib.hid hsn
    generalize ns.getD k 0 = x at *
    generalize ns.take k = pre at *
    have htr := rec_trim x
    have hat := ita_read hps
    have hil : (Lib.itoa x).length ≤ 18 := by
      have := ita_size hps hmx
      have e : (ita x).size = (Lib.itoa x).length := str_of
      omega
    have HTS : Hid (∀ X, Calls Tryz.prog 37 #[rcv x, .string ⟨#[10]⟩] X fun e X' => e = .returned (.string ⟨(Lib.itoa x).toArray⟩) ∧ X' = X) := Lib.hid (fun X => by
      have h := Tryz.strings_TrimSuffix ⟨(rcb x).toArray⟩ ⟨#[10]⟩ X (by rw [str_of, rcb_len]; omega)
      have e1 : (⟨(rcb x).toArray⟩ : ByteArray).data.toList = rcb x := by simp
      have e2 : (⟨#[10]⟩ : ByteArray).data.toList = [10] := rfl
      rw [e1, e2, htr] at h
      exact h)
    have HAT : Hid (∀ X, Calls Tryz.prog 36 #[.string ⟨(Lib.itoa x).toArray⟩] X fun e X' => e = .returned (.tuple #[.int .i64 x, .nilIface]) ∧ Below X.heap.size X X') := Lib.hid (fun X => by
      have e1 : (⟨(Lib.itoa x).toArray⟩ : ByteArray).data.toList = Lib.itoa x := by simp
      refine (Tryz.strconv_Atoi ⟨(Lib.itoa x).toArray⟩ x (by rw [str_of]; exact hil) (by rw [e1]; exact hat) X).mono ?_
      rintro e X' ⟨rfl, t, rfl⟩
      exact ⟨rfl, below_bytes _ _ _⟩)
    have HAD : Hid (∀ X, Lst X 34 2 (.slice A (adds pre).length c) ((adds pre).map rngRow) → Calls Tryz.prog 19 #[.slice A (adds pre).length c, .int .i64 x] X fun e X' => ∃ A' c', e = .returned (.tuple #[.slice A' (addL (adds pre) x).length c', .bool true, .nilIface]) ∧ Below X.heap.size X X' ∧ Lst X' 34 2 (.slice A' (addL (adds pre) x).length c') ((addL (adds pre) x).map rngRow) ∧ ∀ k, k ∈ blocks (.slice A' 0 0) → X.heap.size ≤ k) := Lib.hid (fun X hX => by
      have h := radd_any A (adds pre).length c (adds pre) x X rfl (fun r hr => by
        obtain ⟨⟨p1, p2⟩, p3, p4⟩ := rngE_ok hrg r hr
        unfold okI
        omega) (Rd.of_lst hX)
      rw [hfk, f1, errV_zero] at h
      exact h)
    have HR := Lib.hid hR
    have HBW := Lib.hid hbw
    have H1 := Lib.hid h1
    have H2 := Lib.hid h2
    have H3 := Lib.hid h3
    generalize (Lib.itoa x).toArray = sx at *
    generalize addL (adds pre) x = L2 at *
    clear hfk f1 f2 f3 f4 f5 hps hrg hsn hmx hR hbw h1 h2 h3 htr hat hil hk
    trace "F"; gi_wp2_with (refine ⟨trivial, ?_⟩; gi_at_call 37; refine (CallsIn.inRound l (callsIn_wide.2 (HTS.out _))).mono ?_; rintro e X1 ⟨rfl, rfl⟩)
    refine ⟨trivial, ?_⟩
    refine (CallsIn.inRound l (callsIn_wide.2 (HAT.out _))).mono ?_
    rintro e X2 ⟨rfl, hb2⟩
    have hs2 : Below w.heap.size w X2 := (show Since w X1 from HBW.out).later hb2
    have k1 := H1.out.later hb2
    have k2 := H2.out.later hb2
    have e0 : X2.cell? ⟨w.heap.size + 1 + 1, 0, none⟩ = some (.slice A (adds pre).length c) := k1.cell 0
    have HK1 := Lib.hid k1
    have HK2 := Lib.hid k2
    have HB2 := Lib.hid hb2
    have HS2 := Lib.hid hs2
    clear k1 k2 hb2 hs2
    trace "G"; gi_wp2
    refine ⟨trivial, ?_⟩
    refine (CallsIn.inRound l (callsIn_wide.2 (HAD.out _ HK2.out))).mono ?_
    rintro e X3 ⟨A3, c3, rfl, hb3, hl3, hk3⟩
    have k1 := HK1.out.later hb3
    have e1 : X3.cell? ⟨w.heap.size + 1 + 1, 0, none⟩ = some (.slice A (adds pre).length c) := k1.cell 0
    have lf := k1.lt
    have fr := k1.free
    have HK3 := Lib.hid k1
    have HB3 := Lib.hid hb3
    have HL3 := Lib.hid hl3
    have HKK := Lib.hid hk3
    clear k1 hb3 hl3 hk3 e0
    trace "H"; gi_wp2
    have hs3 : Below w.heap.size w X3 := (show Since w X2 from HS2.out).later HB3.out
    have hsz : w.heap.size + 4 ≤ X2.heap.size := Nat.le_trans HR.out.sz HB2.out.size
    have hnw : ∀ k, k ∈ blocks (.slice A3 0 0) → w.heap.size + 4 ≤ k := fun k hk => Nat.le_trans hsz (HKK.out k hk)
    refine ⟨((keeps_below HB2.out).trans (keeps_below HB3.out)).trans (KeepsOthers.setCell _ _ _), ⟨⟨?_, ?_, ?_, A3, c3, ?_, ?_, hnw⟩, hs3.setCell (by simp; omega) _⟩, fun v hv hf => ?_⟩
    · simp
      exact Nat.le_trans hsz HB3.out.size
    · exact ((HR.out.r1.later HB2.out).later HB3.out).far (by simp <;> omega) _
    · exact ((HR.out.r2.later HB2.out).later HB3.out).far (by simp) _
    · rw [HSN.out]
      exact HK3.out.put 0 (.slice A3 L2.length c3)
    · rw [HSN.out]
      exact HL3.out.kept ((Out.refl X3 [w.heap.size + 1 + 1]).put (Or.inl (by simp)) _) (fun k hk hm => by
        have := hnw k (by rw [blocks_any A3 0 0 L2.length c3]; exact hk)
        rw [List.mem_singleton.1 hm] at this
        omega)
    · obtain ⟨c1, d1⟩ := cell_below HB2.out hv hf
      obtain ⟨c2, d2⟩ := cell_below HB3.out c1 d1
      exact ⟨c2, d2⟩
  case done =>
    trace "E"; rintro D ys W hD rfl ⟨hR, hbw⟩ hK
    obtain ⟨A, c, h1, h2, h3⟩ := hR.bx
    have e0 : W.cell? ⟨w.heap.size + 1 + 1, 0, none⟩ = some (.slice A (adds ys).length c) := h1.cell 0
    have l0 := h1.lt
    have q0 : W.cell? ⟨w.heap.size, 0, none⟩ = some (.slice none 0 0) := hR.r1.cell 0
    have q1 : W.cell? ⟨w.heap.size + 1, 0, none⟩ = some .nilIface := hR.r2.cell 0
    have f0 := hR.r1.free
    have f1 := hR.r2.free
    have l1 := hR.r1.lt
    have l2 := hR.r2.lt
    have HR := Lib.hid hR
    have H1 := Lib.hid h1
    have H2 := Lib.hid h2
    have H3 := Lib.hid h3
    have HBW := Lib.hid hbw
    have HKD := Lib.hid hK
    have HDD := Lib.hid hD
    clear h1 h2 h3 hR hbw hK hD
    trace "I"; gi_wp2
    obtain ⟨X, hX⟩ : ∃ X, (W.setCell ⟨w.heap.size, 0, none⟩ (.slice A (adds ys).length c)).setCell ⟨w.heap.size + 1, 0, none⟩ .nilIface = X := ⟨_, rfl⟩
    rw [hX]
    have x0 : BlockIs X w.heap.size 31 #[.slice A (adds ys).length c] := by rw [← hX]; exact (HR.out.r1.put 0 (.slice A (adds ys).length c)).far (by simp) _
    have x1 : BlockIs X (w.heap.size + 1) 26 #[.nilIface] := by rw [← hX]; exact (HR.out.r2.far (by simp) _).put 0 .nilIface
    have xo : Out W X [w.heap.size, w.heap.size + 1] := by rw [← hX]; exact ((Out.refl W _).put (p := ⟨w.heap.size, 0, none⟩) (Or.inl (by simp)) _).put (p := ⟨w.heap.size + 1, 0, none⟩) (Or.inl (by simp)) _
    have xl : Lst X 34 2 (.slice A (adds ys).length c) ((adds ys).map rngRow) := H2.out.kept xo (fun k hk hm => by
      have := H3.out k (by rw [blocks_any A 0 0 (adds ys).length c]; exact hk)
      simp at hm
      omega)
    have xb : Below w.heap.size w X := by rw [← hX]; exact ((HBW.out).setCell (by simp) _).setCell (by simp) _
    have xd : X.heap[D]? = some (.deferred (some [])) := by
      rw [← hX]
      have hd := HDD.out
      simp at hd
      exact (Below.heap_setCell _ _ _ D (by show D ≠ w.heap.size + 1; omega)).trans ((Below.heap_setCell _ _ _ D (by show D ≠ w.heap.size; omega)).trans HKD.out)
    refine ⟨by simp, .inl ⟨_, _, rfl, run_takeDeferred xd, ?_⟩⟩
    have y0 := boxes_grown x0 (grownBy_putObj' X D (.deferred none)) (fun r e => by cases e; exact ⟨_, xd, rfl⟩)
    have y1 := boxes_grown x1 (grownBy_putObj' X D (.deferred none)) (fun r e => by cases e; exact ⟨_, xd, rfl⟩)
    refine ⟨.tuple #[.slice A (adds ys).length c, .nilIface], ?_, A, c, rfl, rows_grown xl (grownBy_putObj' X D _) (fun r e => by cases e; exact ⟨_, xd, rfl⟩), xb.trans (belowK_b (w := w) (Nat.le_refl _) X D _ _ (by have hd := HDD.out; simp at hd; omega) xd rfl rfl), fun q hq => by have := H3.out q hq; omega⟩
    trace "J"; rw [results_two rfl]
    have c0 : (X.putObj D (.deferred none)).cell? ⟨w.heap.size, 0, none⟩ = some (.slice A (adds ys).length c) := y0.cell 0
    have c1 : (X.putObj D (.deferred none)).cell? ⟨w.heap.size + 1, 0, none⟩ = some .nilIface := y1.cell 0
    go_simp
end Go.Proofs.YtjjmoaaongnjiaaGreatDoor
