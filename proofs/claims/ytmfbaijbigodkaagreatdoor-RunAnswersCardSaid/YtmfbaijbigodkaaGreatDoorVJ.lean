/- Contracts and plain laws that the claim leans on, part 10 of 10: each part has its own word. No condition beside theirs. -/
import Derived.Test.YtmfbaijbigodkaaGreatDoorBase
import Derived.Test.YtmfbaijbigodkaaGreatDoorOnly
import Derived.Test.YtmfbaijbigodkaaGreatDoorMay
import Derived.Test.YtmfbaijbigodkaaGreatDoorCredit
import Derived.Test.YtmfbaijbigodkaaGreatDoorVI
import Derived.ChangeMade
import Derived.Lib.ItoaLen
import Derived.Deep.RegionHeld3
import Derived.Deep.QuietTactic
import Derived.BigQuiet
import Derived.StillTailTactics
import Derived.LoopN
set_option maxHeartbeats 40000000
set_option maxRecDepth 100000
namespace Go.Proofs.YtmfbaijbigodkaaGreatDoor
open Go.ChangeShapes Go.WideShapes Go.ChangeAt Go.RowKit
set_option linter.unusedVariables false
def TkS.got (s : TkS) (who : Int) : ByteArray := (s.e (1 - who)).data.extract 0 (s.e who).t
end Go.Proofs.YtmfbaijbigodkaaGreatDoor
namespace Go.Proofs.YtmfbaijbigodkaaGreatDoor
open Go.RowKit Go.Shelf
set_option linter.unusedVariables false
noncomputable def runB (t : ByteArray) : ByteArray := if 3000 < t.size then bLong else ⟨(after (linesOf t.data.toList)).2.toArray⟩
theorem lines_one {l : List UInt8} (r : List UInt8) (h : free 10 l) : linesOf (l ++ 10 :: r) = (l ++ [10]) :: linesOf r := by
 induction l with
 | nil => rw [List.nil_append, linesOf, if_pos rfl]; rfl
 | cons b l ih =>
   have hb : b ≠ 10 := h b (by simp)
   rw [List.cons_append, linesOf, if_neg hb, ih (fun x hx => h x (by simp [hx]))]
   rfl
theorem trim_end (l : List UInt8) : trim (l ++ [10]) = l := by
 unfold trim Lib.trimSuffix Lib.hasSuffix
 have : ([10] : List UInt8).isSuffixOf (l ++ [10]) = true := by
  rw [List.isSuffixOf_iff_suffix]
  exact List.suffix_append _ _
 rw [if_pos this, List.length_append]
 simp
end Go.Proofs.YtmfbaijbigodkaaGreatDoor
namespace Go.Proofs.YtmfbaijbigodkaaGreatDoor
open Go.ChangeShapes Go.WideShapes Go.ChangeAt Go.RowKit
set_option linter.unusedVariables false
theorem RTabs.later {w w1 : World} (h : RTabs w) (hb : Below w.heap.size w w1) : RTabs w1 := ⟨h.e.later hb, h.k.later hb, h.c.later hb, h.p.later hb, h.s.later hb, cell_later hb h.u⟩
theorem prunB (t : ByteArray) (w : World) (T : RTabs w) : Calls Tryz.prog 36 #[.string t] w fun e w' => e = .returned (.string (runB t)) ∧ Since w w' := by
 unfold runB
 by_cases h : 3000 < t.size
 · rw [if_pos h]
   exact prun_long t h w
 · rw [if_neg h]
   exact prun t (by omega) w T
theorem Tryz.nameErrno (u : TypeId) (h : Tryz.prog.typeName? 3 u = some "wanderwire/api.Errno") : u = 84 := by
 have hall : (List.range 332).all (fun u => Tryz.prog.typeName? 3 u != some "wanderwire/api.Errno" || u == 84) = true := by kernel_rfl
 rcases Nat.lt_or_ge u 332 with hu | hu
 · have := List.all_eq_true.1 hall u (List.mem_range.2 hu)
   rw [h] at this
   simpa using this
 · exfalso
   have hu' : ¬ u < Tryz.prog.types.size := fun hx => absurd (show u < 332 from Tryz.size ▸ hx) (Nat.not_lt.2 hu)
   unfold Program.typeName? at h
   cases hi : Tryz.prog.info? u with
   | none => rw [hi] at h; cases h
   | some i =>
     have hb := Tables.info?_beyond hu' hi
     rw [hi] at h
     cases hd : i.desc <;> simp only [hd, TypeDesc.tableOnly] at h hb <;> try cases hb
     all_goals try cases h
     rename_i e
     simp only [Option.map_eq_some_iff] at h
     obtain ⟨n, _, hn⟩ := h
     have hs := congrArg (fun z : String => z.toList.head?) hn
     simp only [String.toList_append, List.head?_append] at hs
     have hl : "*".toList.head? = some (Char.ofNat 42) := by decide
     have hr : "wanderwire/api.Errno".toList.head? = some (Char.ofNat 119) := by decide
     rw [hl, hr] at hs
     exact absurd hs (by simp)
theorem iface_cell {W : World} {n : String} {nm : String} {d : DataW Unit} {r : List (String × DataW Unit)} {g : Nat} {ti : TypeId} {ms : Array (String × TypeId)} (h : laidMet Tryz.prog ((n, .iface nm d) :: r) W)
  (hg : Tryz.prog.globalNamed n = some g) (ht : (Tryz.prog.globals[g]?).map (·.type) = some ti) (hi : Tryz.prog.underlying ti = some (.interface ms)) : ∃ u v, W.cell? ⟨g, 0, none⟩ = some (.iface u v) := by
 obtain ⟨ps, ⟨g0, t0, cs0, f0, p0, q0, hg0, ht0, hv0, hd0, _, _⟩, _, _⟩ := h
 obtain rfl := Option.some.inj (hg.symm.trans hg0)
 obtain rfl := Option.some.inj (ht.symm.trans ht0)
 obtain ⟨l0⟩ := cs0
 obtain ⟨f1, u, v, hl, _, _⟩ := iface_of_trod hi hd0
 have hl' : l0 = [.iface u v] := hl
 subst hl'
 exact ⟨u, v, by simpa using World.var?_cell hg0 hv0 0⟩
theorem Tryz.unreadName : Tryz.prog.globalNamed "wanderwire/run.unread" = some 1 := by kernel_rfl
theorem Tryz.unreadType : (Tryz.prog.globals[1]?).map (·.type) = some 175 := by kernel_rfl
theorem unread_cell {W : World} {r : List (String × DataW Unit)} (h : laidMet Tryz.prog (("wanderwire/run.unread", Rows.laid_wanderwire_run_unread) :: r) W) : W.cell? ⟨1, 0, none⟩ = some (.iface 84 (.int .i64 2)) := by
 obtain ⟨ps, ⟨g0, t0, cs0, f0, p0, q0, hg0, ht0, hv0, hd0, _, e0⟩, _, hrows⟩ := h
 obtain rfl := Option.some.inj (Tryz.unreadName.symm.trans hg0)
 obtain rfl := Option.some.inj (Tryz.unreadType.symm.trans ht0)
 obtain ⟨xs, m, _, hx, hl, hlen, hf⟩ := DataW.trod_struct Tryz.underlying175 hd0
 have hn : xs.length = 1 := hlen
 obtain ⟨y, rfl⟩ := List.length_eq_one_iff.1 hn
 have hc1 : Tryz.prog.cellsOf 175 = 1 := by kernel_rfl
 have hc2 : Tryz.prog.cellsOf 27 = 1 := by kernel_rfl
 rw [hc1] at hl
 obtain ⟨l0⟩ := cs0
 obtain ⟨c, hc⟩ := List.length_eq_one_iff.1 hl
 have hl' : l0 = [c] := hc
 subst hl'
 simp only [Rows.laid_wanderwire_run_unread, List.map_cons, List.map_nil, Prod.mk.injEq, DataW.agg.injEq, List.cons.injEq, and_true] at hx
 obtain ⟨hy, _⟩ := hx
 have t0 := hf 0 _ rfl
 have t1 : DataW.trod (fun _ => ()) Tryz.prog W 0 (fun _ => true) false m 27 [c] = some (.iface "wanderwire/api.Errno" (.lit (.int .i64 2)), y.2) := by
  rw [hy]
  simpa [hc2] using t0
 obtain ⟨f1, u, v, hcu, hnm, hin⟩ := iface_of_trod Tryz.underlying27 t1
 obtain rfl := Tryz.nameErrno u hnm
 obtain ⟨n0, hce, hd, _⟩ := DataW.trod_int (k := .i64) Tryz.underlying84 hin
 have hn0 : n0 = 2 := by
  injection hd with h1 _
  injection h1 with h1
  injection h1 with _ h1
  exact h1.symm
 subst hn0
 have hcc : W.cell? ⟨1, 0, none⟩ = some (.iface 84 v) := by
  have := World.var?_cell hg0 hv0 0
  injection hcu with h1 _
  rw [h1] at this
  simpa using this
 have ok := (hrows 1 0 (by rw [e0]; simp [MemPlace.row])).2 _ _ hcc
 have hv : v = .int .i64 2 := by
  unfold Value.okWide at ok
  simp only [Tryz.underlying84] at ok
  unfold Cell.okWide at ok
  cases v <;> simp [Value.cells, Cell.ok, Tryz.underlying84] at ok hce
  · obtain ⟨rfl, rfl⟩ := hce
    rfl
 rw [hcc, hv]
theorem laid_r {W : World} (h : laidMetH Tryz.prog [("math/bits.deBruijn32tab", Rows.laid_math_bits_deBruijn32tab), ("math/bits.deBruijn64tab", Rows.laid_math_bits_deBruijn64tab), ("internal/strconv.uint64pow10", Rows.laid_internal_strconv_uint64pow10), ("unicode/utf8.acceptRanges", Rows.laid_unicode_utf8_acceptRanges), ("errors.errorType", Rows.laid_errors_errorType), ("strconv.ErrRange", Rows.laid_strconv_ErrRange), ("strconv.ErrSyntax", Rows.laid_strconv_ErrSyntax), ("wanderwire/varint.kinds", Rows.laid_wanderwire_varint_kinds), ("wanderwire/frame.counts", Rows.laid_wanderwire_frame_counts), ("wanderwire/run.unread", Rows.laid_wanderwire_run_unread), ("unicode/utf8.first", Rows.laid_unicode_utf8_first)] W) : RTabs W := by
 have h' : laidMet Tryz.prog [("math/bits.deBruijn32tab", Rows.laid_math_bits_deBruijn32tab), ("math/bits.deBruijn64tab", Rows.laid_math_bits_deBruijn64tab), ("internal/strconv.uint64pow10", Rows.laid_internal_strconv_uint64pow10), ("unicode/utf8.acceptRanges", Rows.laid_unicode_utf8_acceptRanges), ("strconv.ErrRange", Rows.laid_strconv_ErrRange), ("strconv.ErrSyntax", Rows.laid_strconv_ErrSyntax), ("wanderwire/varint.kinds", Rows.laid_wanderwire_varint_kinds), ("wanderwire/frame.counts", Rows.laid_wanderwire_frame_counts), ("wanderwire/run.unread", Rows.laid_wanderwire_run_unread), ("unicode/utf8.first", Rows.laid_unicode_utf8_first)] W ∧ handlesMet Tryz.prog [("errors.errorType", Rows.laid_errors_errorType)] W := h
 have h1 := h'.1.tail.tail.tail.tail
 obtain ⟨ps, hv, _⟩ := h1.tail.tail
 obtain ⟨hk, q, hq⟩ := ktab_of_vars hv
 exact ⟨etok_of_handles h'.2, hk, ctab_of_vars hq, ptab_of_head h'.1.tail.tail, ⟨iface_cell h1.tail (g := 7) (ti := 27) (by kernel_rfl) (by kernel_rfl) Tryz.underlying27, iface_cell h1 (g := 8) (ti := 27) (by kernel_rfl) (by kernel_rfl) Tryz.underlying27⟩, unread_cell h1.tail.tail.tail.tail⟩
def errText : DataW Unit → ByteArray
 | .iface _ (.ptr (.agg [.lit (.string l)])) => ⟨l.toArray⟩
 | _ => ⟨#[]⟩
def rowCells : DataW Unit → List Value
 | .agg l => litCells l
 | _ => []
def tabCells2 : DataW Unit → Array Value
 | .agg l => (l.map rowCells).flatten.toArray
 | _ => #[]
noncomputable def laidWorld7 (os : Os) : World :=
 let w0 := World.holding Tryz.prog os ⟨#[], #[], []⟩
 { w0 with heap := ((w0.heap
   |>.modify 0 (fun
    | .cells _ t frozen => .cells #[.iface 216 (.agg #[.pointer (some ⟨12, 27, none⟩)])] t frozen
    | o => o)
   |>.modify 1 (fun
    | .cells _ t frozen => .cells #[.iface 84 (.int .i64 2)] t frozen
    | o => o)
   |>.modify 5 (fun
    | .cells _ t frozen => .cells (tabCells Rows.laid_unicode_utf8_first) t frozen
    | o => o)
   |>.modify 6 (fun
    | .cells _ t frozen => .cells (tabCells2 Rows.laid_unicode_utf8_acceptRanges) t frozen
    | o => o)
   |>.modify 10 (fun
    | .cells _ t frozen => .cells (tabCells Rows.laid_math_bits_deBruijn32tab) t frozen
    | o => o)
   |>.modify 11 (fun
    | .cells _ t frozen => .cells (tabCells Rows.laid_math_bits_deBruijn64tab) t frozen
    | o => o)
   |>.modify 9 (fun
    | .cells _ t frozen => .cells (tabCells Rows.laid_internal_strconv_uint64pow10) t frozen
    | o => o)
   |>.modify 8 (fun
    | .cells _ t frozen => .cells #[.iface 301 (.pointer (some ⟨w0.heap.size, 0, none⟩))] t frozen
    | o => o)
   |>.modify 7 (fun
    | .cells _ t frozen => .cells #[.iface 301 (.pointer (some ⟨w0.heap.size + 1, 0, none⟩))] t frozen
    | o => o)
   |>.modify 2 (fun
    | .cells _ t frozen => .cells #[.int .i64 1, .int .i64 64, .int .i64 2, .int .i64 16384, .int .i64 4, .int .i64 1073741824] t frozen
    | o => o)
   |>.modify 3 (fun
    | .cells _ t frozen => .cells #[.int .i64 0, .int .i64 0, .int .i64 0, .int .i64 1, .int .i64 1, .int .i64 1, .int .i64 1, .int .i64 2, .int .i64 1] t frozen
    | o => o)).push (.cells #[.string (errText Rows.laid_strconv_ErrRange)] 303 (0, 0))).push (.cells #[.string (errText Rows.laid_strconv_ErrSyntax)] 303 (0, 0))
 }
theorem laidMet_r (os : Os) (args : Array Value) : laidMetH Tryz.prog [("math/bits.deBruijn32tab", Rows.laid_math_bits_deBruijn32tab), ("math/bits.deBruijn64tab", Rows.laid_math_bits_deBruijn64tab), ("internal/strconv.uint64pow10", Rows.laid_internal_strconv_uint64pow10), ("unicode/utf8.acceptRanges", Rows.laid_unicode_utf8_acceptRanges), ("errors.errorType", Rows.laid_errors_errorType), ("strconv.ErrRange", Rows.laid_strconv_ErrRange), ("strconv.ErrSyntax", Rows.laid_strconv_ErrSyntax), ("wanderwire/varint.kinds", Rows.laid_wanderwire_varint_kinds), ("wanderwire/frame.counts", Rows.laid_wanderwire_frame_counts), ("wanderwire/run.unread", Rows.laid_wanderwire_run_unread), ("unicode/utf8.first", Rows.laid_unicode_utf8_first)] ((laidWorld7 os).forCall (fun _ _ => 0) ⟨#[], args, []⟩).memory :=
 laidMetH_of_parts (laidMet_of_run' 8 (by kernel_rfl) (by kernel_rfl)) (by kernel_rfl)
end Go.Proofs.YtmfbaijbigodkaaGreatDoor
namespace Go.Proofs.YtmfbaijbigodkaaGreatDoor
open Go.ChangeShapes Go.WideShapes Go.ChangeAt Go.RowKit Go.Shelf
set_option linter.unusedVariables false
def wrows (L : List (List UInt8)) : List (List Value) := L.map fun x => wRow ⟨x.toArray⟩
theorem wrows_len (L : List (List UInt8)) : (wrows L).length = L.length := by unfold wrows; rw [List.length_map]
theorem wrows_snoc (L : List (List UInt8)) (x : List UInt8) : wrows (L ++ [x]) = wrows L ++ [wRow ⟨x.toArray⟩] := by unfold wrows; rw [List.map_append]; rfl
theorem ext_bytes (s : ByteArray) (f i : Nat) : s.extract f i = ⟨((s.data.toList.drop f).take (i - f)).toArray⟩ := by
 apply ByteArray.ext
 apply Array.ext'
 rw [ByteArray.data_extract, Array.toList_extract, List.extract_eq_take_drop]
structure Cuts (c : UInt8) (l : List UInt8) (ws : List (List UInt8)) (f i : Nat) : Prop where
 eq : cutAt c l = ws ++ cutAt c (l.drop f)
 le : f ≤ i
 fr : free c ((l.drop f).take (i - f))
 few : ws.length ≤ f
theorem Cuts.start (c : UInt8) (l : List UInt8) : Cuts c l [] 0 0 := ⟨rfl, Nat.le_refl _, fun b hb => by simp at hb, Nat.le_refl _⟩
theorem mid_snoc {l : List UInt8} {f i : Nat} (hf : f ≤ i) (hi : i < l.length) : (l.drop f).take (i + 1 - f) = (l.drop f).take (i - f) ++ [l[i]] := by
 have e : i + 1 - f = (i - f) + 1 := by omega
 have h : i - f < (l.drop f).length := by rw [List.length_drop]; omega
 rw [e, List.take_succ_eq_append_getElem h, List.getElem_drop]
 congr 2
 congr 1
 omega
theorem Cuts.skip {c : UInt8} {l : List UInt8} {ws : List (List UInt8)} {f i : Nat} (h : Cuts c l ws f i) (hi : i < l.length) (hc : l[i] ≠ c) : Cuts c l ws f (i + 1) := by
 refine ⟨h.eq, Nat.le_succ_of_le h.le, fun b hb => ?_, h.few⟩
 rw [mid_snoc h.le hi] at hb
 rcases List.mem_append.1 hb with hb | hb
 · exact h.fr b hb
 · rw [List.mem_singleton.1 hb]; exact hc
theorem Cuts.here {c : UInt8} {l : List UInt8} {ws : List (List UInt8)} {f i : Nat} (h : Cuts c l ws f i) (hi : i < l.length) (hc : l[i] = c) : Cuts c l (ws ++ [(l.drop f).take (i - f)]) (i + 1) (i + 1) := by
 have e : l.drop f = (l.drop f).take (i - f) ++ c :: l.drop (i + 1) := by
  have h1 : (l.drop f).drop (i - f) = l[i] :: l.drop (i + 1) := by
   rw [List.drop_drop, show f + (i - f) = i by have := h.le; omega, List.drop_eq_getElem_cons hi]
  rw [hc] at h1
  rw [← h1, List.take_append_drop]
 refine ⟨?_, Nat.le_refl _, fun b hb => by simp at hb, ?_⟩
 · rw [h.eq, List.append_assoc, List.singleton_append, ← cutAt_app _ h.fr, ← e]
 · rw [List.length_append, List.length_singleton]; have := h.few; have := h.le; omega
theorem Cuts.done {c : UInt8} {l : List UInt8} {ws : List (List UInt8)} {f : Nat} (h : Cuts c l ws f l.length) : cutAt c l = ws ++ [l.drop f] := by
 rw [h.eq]
 congr 1
 apply cutAt_free
 have h1 := h.fr
 rw [List.take_of_length_le (by rw [List.length_drop]; exact Nat.le_refl _)] at h1
 exact h1
theorem rcut (s : ByteArray) (c : UInt8) (w : World) (hs : s.size ≤ 400000) :
  Calls Tryz.prog 37 #[.string s, .int .u8 c.toNat] w fun e w' => ∃ q cp, e = .returned (.slice (some ⟨q, 0, none⟩) (cutAt c s.data.toList).length cp) ∧ Lst w' 9 1 (.slice (some ⟨q, 0, none⟩) (cutAt c s.data.toList).length cp) (wrows (cutAt c s.data.toList)) ∧ w.heap.size ≤ q ∧ Since w w' := by
 obtain ⟨l, hl⟩ : ∃ l, s.data.toList = l := ⟨_, rfl⟩
 obtain ⟨n, hn⟩ : ∃ n, s.size = n := ⟨_, rfl⟩
 have HLN : Hid (l.length = n) := Lib.hid (by rw [← hl, ← hn, Array.length_toList]; rfl)
 have HL0 : Hid (s.data.toList = l) := Lib.hid hl
 have HN := Lib.hid hn
 have hnI : (n : Int) ≤ 400000 := by omega
 rw [hl]
 clear hl
 go_enter Tryz.func37, Tryz.ntmps37
 go_wp2_with fail
 go_loopw [5, 6, 7] (fun s5 s6 s7 wr => ∃ (i f : Nat) (A : Option Addr) (k : Nat) (ws : List (List UInt8)), s5 = .slice A ws.length k ∧ s6 = .int .i64 f ∧ s7 = .int .i64 i ∧ i ≤ n ∧ f ≤ i ∧ Hid (Cuts c l ws f i) ∧ Hid (Lst wr 9 1 (.slice A ws.length k) (wrows ws)) ∧ Hid (∀ q, q ∈ blocks (.slice A 0 0) → w.heap.size ≤ q) ∧ Since w wr) (fun _ _ s7 _ => n - (intOf s7).toNat)
 case atStart => exact ⟨0, 0, none, 0, [], rfl, rfl, rfl, Nat.zero_le _, Nat.le_refl _, Lib.hid (Cuts.start c l), Lib.hid (Lst.nil _ _ _), Lib.hid (by simp [Value.ownBlock]), Since.refl _⟩
 case round =>
  obtain ⟨i, f, A, k, ws, rfl, rfl, rfl, hi, hf, HC, HL, HW, hsw⟩ := hrel
  have hwl : ws.length ≤ 400000 := by have := HC.out.few; omega
  have hwlI : (ws.length : Int) ≤ 400000 := by omega
  have hfI : (f : Int) ≤ (i : Int) := by omega
  have hiI : (i : Int) ≤ (n : Int) := by omega
  by_cases hi2 : i < n
  · have hi3 : (i : Int) < (n : Int) := by omega
    have hil : i < l.length := by rw [HLN.out]; exact hi2
    have his : i < s.size := by rw [HN.out]; exact hi2
    have hget : s[i] = l[i] := by
     have h1 : s[i] = s.data.toList[i]'(by rw [Array.length_toList]; exact his) := rfl
     rw [h1]
     congr 1
    by_cases hb : l[i] = c
    · have hbt : ((s[i].toNat : Int) == (c.toNat : Int)) = true := by rw [hget, hb]; simp
      have HC2 := Lib.hid (HC.out.here hil hb)
      have HX : Hid ((s.extract f i) = ⟨((l.drop f).take (i - f)).toArray⟩) := Lib.hid (by rw [ext_bytes, HL0.out])
      generalize (l.drop f).take (i - f) = X at *
      have HRL := wrows_len ws
      have HR2 := Lib.hid (wrows_snoc ws X)
      clear hget hb
      go_wp2_with (at_builtin; refine wpList_push rfl _ _ 24 rfl 9 1 16 Tryz.elWrd (.slice A ws.length k) (wrows ws) rfl (HL.out.alloc _) wr.heap.size 1 (wRow (s.extract f i)) rfl rfl (wRow_one _).2 (BlockIs.fresh _ _ _) (by rw [wrows_len]; omega) ?_; intro q cq w5 hl5 ho5 hq5 hlt5)
      have hs5 : Since w w5 := (hsw.alloc _).out' ho5 (fun j hj => HW.out j (by rw [blocks_any A 0 0 ws.length k]; exact hj))
      have HW5 : Hid (∀ j, j ∈ blocks (.slice (some ⟨q, 0, none⟩) 0 0) → w.heap.size ≤ j) := Lib.hid (fun j hj => by
       have hj' : q = j := by simpa [Value.ownBlock] using hj
       rcases hq5 with h | h
       · rw [← hj']; exact HW.out q (by rw [blocks_any A 0 0 ws.length k]; exact h)
       · rw [← hj', h]; have := hsw.le; simp; omega)
      rw [HX.out, ← HR2.out] at hl5
      rw [HRL] at hl5
      have HL5 : Hid (Lst w5 9 1 (.slice (some ⟨q, 0, none⟩) (ws ++ [X]).length cq) (wrows (ws ++ [X]))) := Lib.hid (by rw [List.length_append, List.length_singleton]; exact hl5)
      clear hl5 ho5 hq5 hlt5
      go_wp2_with fail
      go_roundw
      case rel => exact ⟨i + 1, i + 1, some ⟨q, 0, none⟩, cq, ws ++ [X], by rw [List.length_append, List.length_singleton], by go_num, by go_num, by omega, by omega, HC2, HL5, HW5, hs5⟩
      case measure => simp [intOf]; omega
    · have hbt : ((s[i].toNat : Int) == (c.toNat : Int)) = false := by
       rw [hget, beq_eq_false_iff_ne]
       intro e
       exact hb (UInt8.toNat_inj.1 (by omega))
      have HC2 := Lib.hid (HC.out.skip hil hb)
      clear hget hb
      go_wp2_with fail
      go_roundw
      case rel => exact ⟨i + 1, f, A, k, ws, rfl, rfl, by go_num, by omega, by omega, HC2, HL, HW, hsw⟩
      case measure => simp [intOf]; omega
  · obtain rfl : i = n := by omega
    have hf2 : decide ((i : Int) < (i : Int)) = false := by simp
    have HD : Hid (cutAt c l = ws ++ [l.drop f]) := Lib.hid (by
     have h := HC.out
     rw [← HLN.out] at h
     exact h.done)
    have HRL := wrows_len ws
    have HR2 := Lib.hid (wrows_snoc ws (l.drop f))
    have HX : Hid ((s.extract f i) = ⟨(l.drop f).toArray⟩) := Lib.hid (by rw [ext_bytes, HL0.out, List.take_of_length_le (by rw [List.length_drop, HLN.out]; exact Nat.le_refl _)])
    go_wp2_with (at_builtin; refine wpList_push rfl _ _ 24 rfl 9 1 16 Tryz.elWrd (.slice A ws.length k) (wrows ws) rfl (HL.out.alloc _) wr.heap.size 1 (wRow (s.extract f i)) rfl rfl (wRow_one _).2 (BlockIs.fresh _ _ _) (by rw [wrows_len]; omega) ?_; intro q cq w5 hl5 ho5 hq5 hlt5)
    have hs5 : Since w w5 := (hsw.alloc _).out' ho5 (fun j hj => HW.out j (by rw [blocks_any A 0 0 ws.length k]; exact hj))
    have hw5 : w.heap.size ≤ q := by
     rcases hq5 with h | h
     · exact HW.out q (by rw [blocks_any A 0 0 ws.length k]; exact h)
     · rw [h]; have := hsw.le; simp; omega
    rw [HX.out, ← HR2.out, ← HD.out] at hl5
    have hcl : ws.length + 1 = (cutAt c l).length := by rw [HD.out, List.length_append, List.length_singleton]
    rw [HRL, hcl] at hl5
    go_wp2_with fail
    go_ret
    exact ⟨q, cq, by rw [← hcl]; simp, hl5, hw5, hs5⟩
theorem dig_at {n : Nat} (h : n < 10) : (⟨#[48, 49, 50, 51, 52, 53, 54, 55, 56, 57]⟩ : ByteArray).extract n (n + 1) = ⟨(Lib.itoa (n : Int)).toArray⟩ := by
 rw [Lib.itoa_nonneg, dd_small h]
 have : n = 0 ∨ n = 1 ∨ n = 2 ∨ n = 3 ∨ n = 4 ∨ n = 5 ∨ n = 6 ∨ n = 7 ∨ n = 8 ∨ n = 9 := by omega
 rcases this with rfl | rfl | rfl | rfl | rfl | rfl | rfl | rfl | rfl | rfl <;> rfl
theorem dig_more {n : Nat} (h : ¬ n < 10) : (⟨(Lib.itoa ((n / 10 : Nat) : Int)).toArray⟩ : ByteArray) ++ ⟨(Lib.itoa ((n % 10 : Nat) : Int)).toArray⟩ = ⟨(Lib.itoa (n : Int)).toArray⟩ := by
 rw [Lib.itoa_nonneg, Lib.itoa_nonneg, Lib.itoa_nonneg, dd_big h, dd_small (show n % 10 < 10 by omega)]
 apply ByteArray.ext
 apply Array.ext'
 rw [ByteArray.data_append, Array.toList_append]
theorem itoa_few60 (n : Nat) (h : n ≤ 9223372036854775807) : (Lib.itoa (n : Int)).length ≤ 60 := by
 rw [Lib.itoa_nonneg, Lib.decDigits_length]
 have := Lib.nDigits_le20 n (by omega)
 omega
theorem rdigits : ∀ (n : Nat) (w : World), n ≤ 9223372036854775807 → 
  Calls Tryz.prog 39 #[.int .i64 (n : Int)] w fun e w' => e = .returned (.string ⟨(Lib.itoa (n : Int)).toArray⟩) ∧ Since w w' := by
 intro n
 induction n using Nat.strongRecOn with
 | _ n ih =>
   intro w hn
   go_enter Tryz.func39, Tryz.ntmps39
   by_cases h : n < 10
   · have h' : (n : Int) < 10 := by omega
     go_wp2_with fail
     go_ret
     exact ⟨by simp [dig_at h], Since.refl _⟩
   · have h' : decide ((n : Int) < 10) = false := by simp; omega
     have HM := Lib.hid (dig_more h)
     have hs60 := itoa_few60 (n / 10) (by omega)
     have HI := Lib.hid (ih (n / 10) (by omega) w (by omega))
     have hd : n % 10 < 10 := by omega
     have hdI : ((n % 10 : Nat) : Int) < 10 := by omega
     have HD := Lib.hid (dig_at hd)
     clear ih
     go_wp2_with fail
     rw [show (n : Int) / 10 = ((n / 10 : Nat) : Int) from by omega, show (n : Int) % 10 = ((n % 10 : Nat) : Int) from by omega]
     refine HI.out.mono ?_
     rintro e w2 ⟨rfl, hs2⟩
     clear HI h h'
     generalize n % 10 = d at *
     have hs61 : (⟨(Lib.itoa ((n / 10 : Nat) : Int)).toArray⟩ : ByteArray).size ≤ 60 := by show (Lib.itoa ((n / 10 : Nat) : Int)).toArray.size ≤ 60; simpa using hs60
     generalize (⟨(Lib.itoa ((n / 10 : Nat) : Int)).toArray⟩ : ByteArray) = X at *
     have hs62 : (ByteArray.extract ⟨#[48, 49, 50, 51, 52, 53, 54, 55, 56, 57]⟩ d (d + 1)).size ≤ 60 := by rw [ByteArray.size_extract]; omega
     clear hs60
     go_wp2_with fail
     go_ret
     exact ⟨by simp [HD.out, HM.out], hs2⟩
def numV (l : List UInt8) : Nat := (dgN l).getD 0
def numB (l : List UInt8) : Bool := (dgN l).isSome
def doneV (e : Int) : ByteArray := if e = 0 then bOk else eName e
theorem nines {P : Int → Prop} (h : P 0 ∧ P 1 ∧ P 2 ∧ P 3 ∧ P 4 ∧ P 5 ∧ P 6 ∧ P 7 ∧ P 8) {e : Int} (h0 : 0 ≤ e) (h8 : e ≤ 8) : P e := by
 have : e = 0 ∨ e = 1 ∨ e = 2 ∨ e = 3 ∨ e = 4 ∨ e = 5 ∨ e = 6 ∨ e = 7 ∨ e = 8 := by omega
 obtain ⟨a1, a2, a3, a4, a5, a6, a7, a8, a9⟩ := h
 rcases this with rfl | rfl | rfl | rfl | rfl | rfl | rfl | rfl | rfl <;> assumption
theorem rname (e : Int) (h0 : 0 ≤ e) (h8 : e ≤ 8) (w : World) :
  Calls Tryz.prog 81 #[.int .i64 e] w fun r w' => r = .returned (.string (eName e)) ∧ Since w w' := by
 refine nines (P := fun e => Calls Tryz.prog 81 #[.int .i64 e] w fun r w' => r = .returned (.string (eName e)) ∧ Since w w') ?_ h0 h8
 refine ⟨?_, ?_, ?_, ?_, ?_, ?_, ?_, ?_, ?_⟩
 all_goals
  go_enter Tryz.func81, Tryz.ntmps81
  go_wp2_with fail
  go_ret
  exact ⟨rfl, (by exact Since.alloc (Since.refl _) _)⟩
theorem rdone (e : Int) (h0 : 0 ≤ e) (h8 : e ≤ 8) (w : World) :
  Calls Tryz.prog 82 #[.int .i64 e] w fun r w' => r = .returned (.string (doneV e)) ∧ Since w w' := by
 have HN := Lib.hid (rname e h0 h8)
 by_cases he : e = 0
 · subst he
   go_enter Tryz.func82, Tryz.ntmps82
   go_wp2_with fail
   go_ret
   exact ⟨rfl, Since.refl _⟩
 · have hq : (e != 0) = true := by simpa using he
   have HV : Hid (doneV e = eName e) := Lib.hid (by unfold doneV; rw [if_neg he])
   go_enter Tryz.func82, Tryz.ntmps82
   go_wp2_with fail
   refine (HN.out _).mono ?_
   rintro r w1 ⟨rfl, hs1⟩
   go_wp2_with fail
   go_ret
   exact ⟨by simp [HV.out], hs1⟩
structure Reads (l : List UInt8) (acc i : Nat) : Prop where
 eq : Lib.decFrom 0 l = Lib.decFrom acc (l.drop i)
 lt : acc < 10 ^ i
theorem Reads.start (l : List UInt8) : Reads l 0 0 := ⟨rfl, by decide⟩
theorem Reads.step {l : List UInt8} {acc i : Nat} {b : UInt8} (h : Reads l acc i) (hi : l[i]? = some b) (h1 : 48 ≤ b.toNat) (h2 : b.toNat ≤ 57) : Reads l (acc * 10 + (b.toNat - 48)) (i + 1) := by
 obtain ⟨hl, hb⟩ := List.getElem?_eq_some_iff.1 hi
 have hd : Lib.digitVal b = some (b.toNat - 48) := by
  unfold Lib.digitVal
  simp [h1, h2]
 refine ⟨?_, ?_⟩
 · rw [h.eq, List.drop_eq_getElem_cons hl, hb, Lib.decFrom, hd]
 · rw [Nat.pow_succ]; have := h.lt; omega
theorem Reads.stop {l : List UInt8} {acc i : Nat} {b : UInt8} (h : Reads l acc i) (hi : l[i]? = some b) (h1 : b.toNat < 48 ∨ 57 < b.toNat) : Lib.decFrom 0 l = none := by
 obtain ⟨hl, hb⟩ := List.getElem?_eq_some_iff.1 hi
 have hd : Lib.digitVal b = none := by
  unfold Lib.digitVal
  simp
  omega
 rw [h.eq, List.drop_eq_getElem_cons hl, hb, Lib.decFrom, hd]
theorem Reads.done {l : List UInt8} {acc : Nat} (h : Reads l acc l.length) : Lib.decFrom 0 l = some acc := by
 rw [h.eq, List.drop_length, Lib.decFrom]
theorem rnumber (s : ByteArray) (w : World) :
  Calls Tryz.prog 80 #[.string s] w fun r w' => r = .returned (.tuple #[.int .i64 (numV s.data.toList), .bool (numB s.data.toList)]) ∧ w' = w := by
 have hno : ∀ l : List UInt8, (l = [] ∨ 4 < l.length ∨ (l.head? = some 48 ∧ 1 < l.length)) → numV l = 0 ∧ numB l = false := fun l h => by
  unfold numV numB dgN
  rw [if_pos h]
  exact ⟨rfl, rfl⟩
 have hyes : ∀ l : List UInt8, ¬ (l = [] ∨ 4 < l.length ∨ (l.head? = some 48 ∧ 1 < l.length)) → dgN l = Lib.decFrom 0 l := fun l h => by
  unfold dgN
  rw [if_neg h]
 have hsz : s.data.toList.length = s.size := by rw [Array.length_toList]; rfl
 by_cases hz : s.size = 0
 · have h0 : s.data.toList = [] := List.length_eq_zero_iff.1 (by omega)
   obtain ⟨e1, e2⟩ := hno s.data.toList (Or.inl h0)
   have hs : s = ⟨#[]⟩ := ByteArray.ext (Array.toList_inj.1 h0)
   rw [e1, e2]
   subst hs
   clear hno hyes hsz h0 e1 e2
   go_enter Tryz.func80, Tryz.ntmps80
   go_wp2_with fail
   go_ret2
   exact ⟨rfl, rfl⟩
 have hne : s.toList.isEmpty = false := not_empty (fun e => hz (by rw [e]; rfl))
 by_cases h4 : 4 < s.size
 · have h4' : (4 : Int) < (s.size : Int) := by omega
   obtain ⟨e1, e2⟩ := hno s.data.toList (Or.inr (Or.inl (by omega)))
   rw [e1, e2]
   clear hno hyes hsz e1 e2
   go_enter Tryz.func80, Tryz.ntmps80
   go_wp2_with fail
   go_ret2
   exact ⟨rfl, rfl⟩
 have h4' : decide ((4 : Int) < (s.size : Int)) = false := by simp; omega
 have hpos : 0 < s.size := by omega
 have hposI : (0 : Int) < (s.size : Int) := by omega
 have hhd : s.data.toList.head? = some s[0] := by
  have hl0 : 0 < s.data.toList.length := by omega
  have e : s[0] = s.data.toList[0] := rfl
  rw [e, ← List.getElem?_eq_getElem hl0, List.head?_eq_getElem?]
 by_cases hb : s[0] = 48 ∧ 1 < s.size
 · obtain ⟨hb1, hb2⟩ := hb
   have hb1' : ((s[0].toNat : Int) == 48) = true := by rw [hb1]; rfl
   have hb2' : (1 : Int) < (s.size : Int) := by omega
   obtain ⟨e1, e2⟩ := hno s.data.toList (Or.inr (Or.inr ⟨by rw [hhd, hb1], by omega⟩))
   rw [e1, e2]
   clear hno hyes hsz e1 e2 hhd hb1
   go_enter Tryz.func80, Tryz.ntmps80
   go_wp2_with fail
   go_ret2
   exact ⟨rfl, rfl⟩
 have HY : Hid (dgN s.data.toList = Lib.decFrom 0 s.data.toList) := Lib.hid (hyes _ (by
  rintro (h | h | ⟨h1, h2⟩)
  · rw [h] at hsz; simp at hsz; omega
  · omega
  · rw [hhd] at h1
    exact hb ⟨Option.some.inj h1, by omega⟩))
 have hfirst : ((s[0].toNat : Int) == 48) = false ∨ (((s[0].toNat : Int) == 48) = true ∧ decide ((1 : Int) < (s.size : Int)) = false) := by
  by_cases h : s[0] = 48
  · right
    exact ⟨by rw [h]; rfl, by simp; have : ¬ 1 < s.size := fun x => hb ⟨h, x⟩; omega⟩
  · left
    rw [beq_eq_false_iff_ne]
    intro e
    exact h (UInt8.toNat_inj.1 (by have : (48 : UInt8).toNat = 48 := rfl; omega))
 have HLN := Lib.hid hsz
 have hI4 : (s.size : Int) ≤ 4 := by omega
 clear hno hyes hb hhd hsz hz h4
 go_enter Tryz.func80, Tryz.ntmps80
 rcases hfirst with hf | ⟨hf, hf2⟩
 all_goals
  go_wp2_with fail
  go_loopw [4, 5] (fun s4 s5 wr => ∃ i acc : Nat, s4 = .int .i64 acc ∧ s5 = .int .i64 i ∧ i ≤ s.size ∧ Hid (Reads s.data.toList acc i) ∧ wr = w) (fun _ s5 _ => s.size - (intOf s5).toNat)
  case atStart => exact ⟨0, 0, rfl, rfl, Nat.zero_le _, Lib.hid (Reads.start _), rfl⟩
  case round =>
   obtain ⟨i, acc, rfl, rfl, hi, HR, rfl⟩ := hrel
   by_cases hi2 : i < s.size
   · have hi3 : (i : Int) < (s.size : Int) := by omega
     have HG : Hid (s.data.toList[i]? = some s[i]) := Lib.hid (by
      have hil : i < s.data.toList.length := by rw [HLN.out]; exact hi2
      rw [List.getElem?_eq_getElem hil]
      rfl)
     have hacc : (acc : Int) ≤ 1000 := by
      have h1 := HR.out.lt
      have h2 : 10 ^ i ≤ 10 ^ 3 := Nat.pow_le_pow_right (by decide) (by omega)
      omega
     by_cases h1 : s[i].toNat < 48
     · have h1' : (s[i].toNat : Int) < 48 := by omega
       have HN : Hid (dgN s.data.toList = none) := Lib.hid (by rw [HY.out]; exact HR.out.stop HG.out (Or.inl h1))
       go_wp2_with fail
       go_ret2
       exact ⟨by unfold numV numB; rw [HN.out]; rfl, rfl⟩
     have h1' : decide ((s[i].toNat : Int) < 48) = false := by simp; omega
     by_cases h2 : 57 < s[i].toNat
     · have h2' : (57 : Int) < (s[i].toNat : Int) := by omega
       have HN : Hid (dgN s.data.toList = none) := Lib.hid (by rw [HY.out]; exact HR.out.stop HG.out (Or.inr h2))
       go_wp2_with fail
       go_ret2
       exact ⟨by unfold numV numB; rw [HN.out]; rfl, rfl⟩
     have h2' : decide ((57 : Int) < (s[i].toNat : Int)) = false := by simp; omega
     have HR2 := Lib.hid (HR.out.step HG.out (by omega) (by omega))
     have hb0 : (48 : Int) ≤ (s[i].toNat : Int) := by omega
     have hb9 : (s[i].toNat : Int) ≤ 57 := by omega
     go_wp2_with fail
     go_roundw
     case rel => exact ⟨i + 1, acc * 10 + (s[i].toNat - 48), by go_num, by go_num, by omega, HR2, trivial⟩
     case measure => simp [intOf]; omega
   · obtain rfl : i = s.size := by omega
     have hf3 : decide ((s.size : Int) < (s.size : Int)) = false := by simp
     have HN : Hid (dgN s.data.toList = some acc) := Lib.hid (by
      have h := HR.out
      rw [← HLN.out] at h
      rw [HY.out, h.done])
     go_wp2_with fail
     go_ret2
     exact ⟨by unfold numV numB; rw [HN.out]; rfl, rfl⟩
end Go.Proofs.YtmfbaijbigodkaaGreatDoor
namespace Go.Proofs.YtmfbaijbigodkaaGreatDoor
open Go.RowKit
set_option linter.unusedVariables false
def Nine (e : Int) : Prop := 0 ≤ e ∧ e ≤ 8
theorem rngOne_nine (L : List Rng) (i : Nat) : Nine (rngOne L i) := by
 unfold rngOne
 repeat' (first | split | (refine ⟨?_, ?_⟩ <;> decide))
theorem rngUp_nine (L : List Rng) : ∀ n, Nine (rngUp L n)
 | 0 => ⟨Int.le_refl _, by show (0 : Int) ≤ 8; decide⟩
 | n + 1 => by
   rw [rngUp]
   repeat' (first | exact rngOne_nine _ _ | exact rngUp_nine L n | split | (refine ⟨?_, ?_⟩ <;> decide))
theorem rngE_nine (L : List Rng) : Nine (rngE L) := by
 unfold rngE
 repeat' (first | exact rngUp_nine _ _ | split | (refine ⟨?_, ?_⟩ <;> decide))
theorem ctakeE_nine (a b : Int) : Nine (takeE a b) := by
 unfold takeE
 repeat' (first | split | (refine ⟨?_, ?_⟩ <;> decide))
theorem putE_nine (M : Plc) (x : Int) (d : List UInt8) : Nine (putE M x d) := by
 unfold putE
 repeat' (first | split | (refine ⟨?_, ?_⟩ <;> decide))
theorem addE_nine (L : List Rng) (x : Int) : Nine (addE L x) := by
 unfold addE
 repeat' (first | exact rngE_nine L | split | (refine ⟨?_, ?_⟩ <;> decide))
theorem take1E_nine (s : EnS) (f : Frm) : Nine (s.take1E f) := by
 unfold EnS.take1E
 repeat' (first | exact putE_nine _ _ _ | exact ctakeE_nine _ _ | split | (refine ⟨?_, ?_⟩ <;> decide))
theorem takes_nine : ∀ (L : List Frm) (s : EnS), Nine (s.takes L).1
 | [], s => ⟨Int.le_refl _, by show (0 : Int) ≤ 8; decide⟩
 | f :: r, s => by
   rw [EnS.takes]
   split
   · exact takes_nine r _
   · exact take1E_nine s f
theorem pktE_nine (s : EnS) (n : Int) (L : List Frm) : Nine (s.pktE n L) := by
 unfold EnS.pktE
 repeat' (first | exact addE_nine _ _ | exact takes_nine _ _ | split | (refine ⟨?_, ?_⟩ <;> decide))
theorem openE_nine (b : List UInt8) (n : Int) : Nine (openE b n) := by
 unfold openE
 repeat' (first | split | (refine ⟨?_, ?_⟩ <;> decide))
theorem etakeE_nine (s : EnS) (b : List UInt8) : Nine (s.takeE b) := by
 unfold EnS.takeE
 repeat' (first | exact pktE_nine _ _ _ | exact openE_nine _ _ | split | (refine ⟨?_, ?_⟩ <;> decide))
theorem comeE_nine (s : TkS) (i : Int) : Nine (s.comeE i) := by
 unfold TkS.comeE
 repeat' (first | exact etakeE_nine _ _ | split | (refine ⟨?_, ?_⟩ <;> decide))
theorem sendE_nine (s : TkS) (i : Int) : Nine (s.sendE i) := by
 unfold TkS.sendE
 repeat' (first | split | (refine ⟨?_, ?_⟩ <;> decide))
theorem giveE_nine (L : List Let) (i : Int) : Nine (giveE L i) := by
 unfold giveE
 repeat' (first | split | (refine ⟨?_, ?_⟩ <;> decide))
theorem twiceE_nine (L : List Let) (i : Int) : Nine (twiceE L i) := by
 unfold twiceE
 repeat' (first | split | (refine ⟨?_, ?_⟩ <;> decide))
end Go.Proofs.YtmfbaijbigodkaaGreatDoor
namespace Go.Proofs.YtmfbaijbigodkaaGreatDoor
open Go.ChangeShapes Go.WideShapes Go.ChangeAt Go.RowKit Go.Shelf
set_option linter.unusedVariables false
theorem rcut32 (s : ByteArray) {ws : List (List UInt8)} {n : Nat} (hw : cutAt 32 s.data.toList = ws) (hn : ws.length = n) (w0 w : World) (L : List Thing) (hs : s.size ≤ 3000) (ho : Own w0 [] w L) :
  Calls Tryz.prog 37 #[.string s, .int .u8 32] w fun e w' => ∃ q cp, e = .returned (.slice (some ⟨q, 0, none⟩) n cp) ∧ Lst w' 9 1 (.slice (some ⟨q, 0, none⟩) n cp) (wrows ws) ∧ Own w0 [] w' L := by
 refine (rcut s 32 w (by omega)).mono ?_
 rw [hw, hn]
 rintro e w' ⟨q, cp, a, b, _, d⟩
 exact ⟨q, cp, a, b, ho.later d⟩
theorem wcell {w : World} {ws : List (List UInt8)} {q n cp : Nat} (h : Lst w 9 1 (.slice (some ⟨q, 0, none⟩) n cp) (wrows ws)) {j : Nat} {x : List UInt8} (hx : ws[j]? = some x) : w.cell? ⟨q, j, none⟩ = some (.string ⟨x.toArray⟩) := by
 have := h.cell rfl (i := j) (j := 0) (e := wRow ⟨x.toArray⟩) (u := .string ⟨x.toArray⟩) (by unfold wrows; rw [List.getElem?_map, hx]; rfl) rfl
 simpa using this
theorem icell {w : World} {es : List Int} {q n cp : Nat} (h : Lst w 3 1 (.slice (some ⟨q, 0, none⟩) n cp) (es.map intRow)) {j : Nat} {x : Int} (hx : es[j]? = some x) : w.cell? ⟨q, j, none⟩ = some (.int .i64 x) := by
 have := h.cell rfl (i := j) (j := 0) (e := intRow x) (u := .int .i64 x) (by rw [List.getElem?_map, hx]; rfl) rfl
 simpa using this
theorem numb_yes {s : ByteArray} {a : List UInt8} {n : Nat} (hs : s = ⟨a.toArray⟩) (h : dgN a = some n) (w : World) : Calls Tryz.prog 80 #[.string s] w fun r w' => r = .returned (.tuple #[.int .i64 n, .bool true]) ∧ w' = w := by
 have := rnumber s w
 rw [hs, List.toList_toArray] at this
 unfold numV numB at this
 rw [h] at this
 rw [hs]
 exact this
theorem numb_no {s : ByteArray} {a : List UInt8} (hs : s = ⟨a.toArray⟩) (h : dgN a = none) (w : World) : Calls Tryz.prog 80 #[.string s] w fun r w' => r = .returned (.tuple #[.int .i64 0, .bool false]) ∧ w' = w := by
 have := rnumber s w
 rw [hs, List.toList_toArray] at this
 unfold numV numB at this
 rw [h] at this
 rw [hs]
 exact this
theorem rt_ok {w : World} {S : List Nat} {g : Nat} {s : TkS} (h : (rtT g s).is w S) : TkOk s := by
 obtain ⟨_, _, ok, _⟩ := rtT_open h
 exact ok
theorem vb_small {n : Nat} (h : n ≤ 9999) : (∃ b, vbytes (n : Int) = [b]) ∨ ∃ b c, vbytes (n : Int) = [b, c] := by
 unfold vbytes
 by_cases h1 : (n : Int) < 64
 · rw [if_pos h1]; exact Or.inl ⟨_, rfl⟩
 · rw [if_neg h1, if_pos (by omega)]; exact Or.inr ⟨_, _, rfl⟩
theorem tells_1 (b : UInt8) : (⟨(tells [b]).toArray⟩ : ByteArray) = ⟨(Lib.itoa ((b.toNat : Nat) : Int)).toArray⟩ := by
 unfold tells
 rw [List.map_cons, List.map_nil, Lib.join_cons]
 simp [Lib.joinTail]
theorem tells_2 (b c : UInt8) : (⟨(tells [b, c]).toArray⟩ : ByteArray) = ⟨(Lib.itoa ((b.toNat : Nat) : Int)).toArray⟩ ++ ⟨#[32]⟩ ++ ⟨(Lib.itoa ((c.toNat : Nat) : Int)).toArray⟩ := by
 unfold tells
 rw [List.map_cons, List.map_cons, List.map_nil, Lib.join_cons]
 apply ByteArray.ext
 apply Array.ext'
 rw [ByteArray.data_append, ByteArray.data_append, Array.toList_append, Array.toList_append]
 simp [Lib.joinTail]
theorem dig_size (b : UInt8) : (⟨(Lib.itoa ((b.toNat : Nat) : Int)).toArray⟩ : ByteArray).size ≤ 60 := by
 have := itoa_few60 b.toNat (by have := b.toNat_lt; omega)
 show (Lib.itoa ((b.toNat : Nat) : Int)).toArray.size ≤ 60
 simpa using this
theorem rl_cell0 {w : World} {S : List Nat} {g : Nat} {s : TkS} (h : (rtT g s).is w S) : ∃ ge, w.cell? ⟨g, 0, none⟩ = some (.pointer (some ⟨ge, 0, none⟩)) ∧ ∃ S0, (rnT ge s.e0).is w S0 ∧ ∀ (w' : World) (x : EnS), Leaves w w' S0 (rnT ge x) → Leaves w w' S (rtT g { s with e0 := x }) ∧ w'.cell? ⟨g, 0, none⟩ = some (.pointer (some ⟨ge, 0, none⟩)) := by
 obtain ⟨g0, g1, ok, ho⟩ := rtT_open h
 obtain ⟨S1, ⟨v, hz, -⟩, -⟩ := ho.at_ 0 rfl
 obtain ⟨S2, hS2, up2⟩ := ho.at_ 1 rfl
 refine ⟨g0, hz.bl.cell 0, S2, hS2, fun w' x hl => ?_⟩
 have o := up2 _ _ hl
 obtain ⟨S3, ⟨v3, hz3, -⟩, -⟩ := o.at_ 0 rfl
 exact ⟨rtT_close (g0 := g0) (g1 := g1) ok o, hz3.bl.cell 0⟩
theorem rl_rd0 (w0 : World) (g : Nat) (s : TkS) (x : Int) (ge : Nat) (R B : Thing) (W : World) (h : Own w0 [] W [rtT g s, R, B]) (hc : W.cell? ⟨g, 0, none⟩ = some (.pointer (some ⟨ge, 0, none⟩))) :
  Calls Tryz.prog 13 #[.pointer (some ⟨ge, 0, none⟩), .int .i64 x] W fun e w' => e = .returned (.tuple #[.string (s.e0.readS x), .int .i64 (EnS.readE x)]) ∧ Own w0 [] w' [rtT g { s with e0 := s.e0.read x }, R, B] ∧ w'.cell? ⟨g, 0, none⟩ = some (.pointer (some ⟨ge, 0, none⟩)) := by
 obtain ⟨S, hS, up⟩ := h.at_ 0 rfl
 obtain ⟨ge', hc', S0, h0, upe⟩ := rl_cell0 hS
 rw [hc] at hc'
 cases hc'
 exact (nread ge s.e0 x W S0 h0).mono fun e w' ⟨h1, h2⟩ => ⟨h1, up _ _ (upe _ _ h2).1, (upe _ _ h2).2⟩
theorem rl_cell1 {w : World} {S : List Nat} {g : Nat} {s : TkS} (h : (rtT g s).is w S) : ∃ ge, w.cell? ⟨g, 1, none⟩ = some (.pointer (some ⟨ge, 0, none⟩)) ∧ ∃ S0, (rnT ge s.e1).is w S0 ∧ ∀ (w' : World) (x : EnS), Leaves w w' S0 (rnT ge x) → Leaves w w' S (rtT g { s with e1 := x }) ∧ w'.cell? ⟨g, 1, none⟩ = some (.pointer (some ⟨ge, 0, none⟩)) := by
 obtain ⟨g0, g1, ok, ho⟩ := rtT_open h
 obtain ⟨S1, ⟨v, hz, -⟩, -⟩ := ho.at_ 0 rfl
 obtain ⟨S2, hS2, up2⟩ := ho.at_ 2 rfl
 refine ⟨g1, hz.bl.cell 1, S2, hS2, fun w' x hl => ?_⟩
 have o := up2 _ _ hl
 obtain ⟨S3, ⟨v3, hz3, -⟩, -⟩ := o.at_ 0 rfl
 exact ⟨rtT_close (g0 := g0) (g1 := g1) ok o, hz3.bl.cell 1⟩
theorem rl_rd1 (w0 : World) (g : Nat) (s : TkS) (x : Int) (ge : Nat) (R B : Thing) (W : World) (h : Own w0 [] W [rtT g s, R, B]) (hc : W.cell? ⟨g, 1, none⟩ = some (.pointer (some ⟨ge, 0, none⟩))) :
  Calls Tryz.prog 13 #[.pointer (some ⟨ge, 0, none⟩), .int .i64 x] W fun e w' => e = .returned (.tuple #[.string (s.e1.readS x), .int .i64 (EnS.readE x)]) ∧ Own w0 [] w' [rtT g { s with e1 := s.e1.read x }, R, B] ∧ w'.cell? ⟨g, 1, none⟩ = some (.pointer (some ⟨ge, 0, none⟩)) := by
 obtain ⟨S, hS, up⟩ := h.at_ 0 rfl
 obtain ⟨ge', hc', S0, h0, upe⟩ := rl_cell1 hS
 rw [hc] at hc'
 cases hc'
 exact (nread ge s.e1 x W S0 h0).mono fun e w' ⟨h1, h2⟩ => ⟨h1, up _ _ (upe _ _ h2).1, (upe _ _ h2).2⟩
theorem lcap {w : World} {E n cp : Nat} {A : Option Addr} {es : List (List Value)} (h : Lst w E 1 (.slice A n cp) es) : n ≤ cp := by
 obtain ⟨B, cap, he, h1, _⟩ := h.shape
 injection he with h3 h4 h5
 omega
theorem Since.trans2 {a b c : World} (h : Since a b) (k : Since b c) : Since a c := h.later k
theorem nil_app (X : ByteArray) : (⟨#[]⟩ : ByteArray) ++ X = X := by
 apply ByteArray.ext
 rw [ByteArray.data_append]
 simp
theorem byte_in (b : UInt8) : wrap64 ((b.toNat : Nat) : Int) = ((b.toNat : Nat) : Int) := by
 have := b.toNat_lt
 exact IntWalk.wrap64_in _ (by omega)
theorem byte_at10 {b : UInt8} (h : 0 < (⟨#[b]⟩ : ByteArray).size) : wrap64 ((((⟨#[b]⟩ : ByteArray)[0]'h).toNat : Nat) : Int) = ((b.toNat : Nat) : Int) := byte_in b
theorem byte_at20 {b c : UInt8} (h : 0 < (⟨#[b, c]⟩ : ByteArray).size) : wrap64 ((((⟨#[b, c]⟩ : ByteArray)[0]'h).toNat : Nat) : Int) = ((b.toNat : Nat) : Int) := byte_in b
theorem byte_at21 {b c : UInt8} (h : 1 < (⟨#[b, c]⟩ : ByteArray).size) : wrap64 ((((⟨#[b, c]⟩ : ByteArray)[1]'h).toNat : Nat) : Int) = ((c.toNat : Nat) : Int) := byte_in c
theorem rl_push1 {w0 w2 w5 : World} {T1 R : Thing} {n1 qn cn : Nat} {o : Obj} (ho : Own w0 [] w2 [T1, R]) (hl : Lst w5 3 1 (.slice (some ⟨qn, 0, none⟩) 1 cn) [intRow n1]) (h5 : Out (w2.alloc o) w5 (blocks (.slice none 0 0))) (hq : qn ∈ blocks (.slice none 0 0) ∨ qn = (w2.alloc o).heap.size) :
  Since w2 w5 ∧ w2.heap.size ≤ qn ∧ Own w0 [] w5 [T1, R, Thing.lst 3 1 (.slice (some ⟨qn, 0, none⟩) 1 cn) ([(n1 : Int)].map intRow)] ∧ w5.cell? ⟨qn, 0, none⟩ = some (.int .i64 n1) := by
 have hs5 : Since w2 w5 := ((Since.refl w2).alloc _).out' h5 (fun k hk => by simp [Value.ownBlock] at hk)
 have hqn : w2.heap.size ≤ qn := by
  rcases hq with h | h
  · simp [Value.ownBlock] at h
  · rw [h]; simp
 exact ⟨hs5, hqn, ho.add hs5 (S := [qn]) ⟨hl, rfl⟩ (fun k hk => by rw [List.mem_singleton.1 hk]; exact hqn), icell (es := [(n1 : Int)]) hl (j := 0) rfl⟩
theorem rl_push2 {w0 w2 w6 w7 : World} {T1 R : Thing} {n1 n2 qn cn qm cm : Nat} {o : Obj} (ho : Own w0 [] w2 [T1, R]) (hs5 : Since w2 w6) (hqn : w2.heap.size ≤ qn) (hl : Lst w7 3 1 (.slice (some ⟨qm, 0, none⟩) 2 cm) [intRow n1, intRow n2]) (h7 : Out (w6.alloc o) w7 (blocks (.slice (some ⟨qn, 0, none⟩) 1 cn))) (hq : qm ∈ blocks (.slice (some ⟨qn, 0, none⟩) 1 cn) ∨ qm = (w6.alloc o).heap.size) :
  Since w2 w7 ∧ Own w0 [] w7 [T1, R, Thing.lst 3 1 (.slice (some ⟨qm, 0, none⟩) 2 cm) ([(n1 : Int), (n2 : Int)].map intRow)] ∧ w7.cell? ⟨qm, 0, none⟩ = some (.int .i64 n1) ∧ w7.cell? ⟨qm, 1, none⟩ = some (.int .i64 n2) := by
 have hs7 : Since w2 w7 := (hs5.alloc _).out' h7 (fun k hk => by
  have e : qn = k := by simpa [Value.ownBlock] using hk
  rw [← e]; exact hqn)
 have hqm : w2.heap.size ≤ qm := by
  rcases hq with h | h
  · have e : qn = qm := by simpa [Value.ownBlock] using h
    rw [← e]; exact hqn
  · rw [h]
    have := hs5.size
    simp
    omega
 exact ⟨hs7, ho.add hs7 (S := [qm]) ⟨hl, rfl⟩ (fun k hk => by rw [List.mem_singleton.1 hk]; exact hqm), icell (es := [(n1 : Int), (n2 : Int)]) hl (j := 0) rfl, icell (es := [(n1 : Int), (n2 : Int)]) hl (j := 1) rfl⟩
theorem rl_write_len (w0 : World) (R : Thing) (g : Nat) (s : TkS) (t : ByteArray) (r : List (List UInt8)) (hr : r.length ≠ 2) (hw : cutAt 32 t.data.toList = wWrite :: r) (hz : t.size ≤ 3000) (w : World) (ho : Own w0 [] w [rtT g s, R]) :
  Calls Tryz.prog 38 #[.pointer (some ⟨g, 0, none⟩), .string t] w fun e w' => e = .returned (.string ⟨#[98, 97, 100]⟩) ∧ Own w0 [] w' [rtT g s, R] := by
 have HO := Lib.hid ho
 have HW := Lib.hid hw
 obtain ⟨k, hk⟩ : ∃ k, r.length = k := ⟨_, rfl⟩
 obtain ⟨n, hn⟩ : ∃ n, (wWrite :: r).length = n := ⟨_, rfl⟩
 have hnk : n = k + 1 := by rw [← hn, List.length_cons, hk]
 have hfw : n ≤ 3001 := by
  have := cutAt_few 32 t.data.toList
  rw [hw, hn, Array.length_toList] at this
  have hz' : t.data.size ≤ 3000 := hz
  omega
 have q0 : IntKind.i64.wrap ((n : Int) - 1) = (k : Int) := by rw [IntWalk.i64_in _ (by omega)]; omega
 have q1 : ((k : Int) != 2) = true := by
  have : (k : Int) ≠ 2 := by omega
  simpa using this
 have hn0 : 0 < n := by omega
 clear hr hk hnk hfw
 clear ho hw
 go_enter Tryz.func38, Tryz.ntmps38
 go_wp2_with fail
 refine (rcut32 t HW.out hn w0 w _ hz HO.out).mono ?_
 rintro e w1 ⟨q, cp, rfl, hl1, ho1⟩
 have HO1 := Lib.hid ho1
 have c0 : w1.cell? ⟨q, 0, none⟩ = some (.string ⟨#[119, 114, 105, 116, 101]⟩) := wcell hl1 (j := 0) rfl
 clear ho1 hl1
 go_wp2_with fail
 go_ret
 exact ⟨rfl, HO1.out⟩
theorem rl_send_len (w0 : World) (R : Thing) (g : Nat) (s : TkS) (t : ByteArray) (r : List (List UInt8)) (hr : r.length ≠ 1) (hw : cutAt 32 t.data.toList = wSend :: r) (hz : t.size ≤ 3000) (w : World) (ho : Own w0 [] w [rtT g s, R]) :
  Calls Tryz.prog 38 #[.pointer (some ⟨g, 0, none⟩), .string t] w fun e w' => e = .returned (.string ⟨#[98, 97, 100]⟩) ∧ Own w0 [] w' [rtT g s, R] := by
 have HO := Lib.hid ho
 have HW := Lib.hid hw
 obtain ⟨k, hk⟩ : ∃ k, r.length = k := ⟨_, rfl⟩
 obtain ⟨n, hn⟩ : ∃ n, (wSend :: r).length = n := ⟨_, rfl⟩
 have hnk : n = k + 1 := by rw [← hn, List.length_cons, hk]
 have hfw : n ≤ 3001 := by
  have := cutAt_few 32 t.data.toList
  rw [hw, hn, Array.length_toList] at this
  have hz' : t.data.size ≤ 3000 := hz
  omega
 have q0 : IntKind.i64.wrap ((n : Int) - 1) = (k : Int) := by rw [IntWalk.i64_in _ (by omega)]; omega
 have q1 : ((k : Int) != 1) = true := by
  have : (k : Int) ≠ 1 := by omega
  simpa using this
 have hn0 : 0 < n := by omega
 clear hr hk hnk hfw
 clear ho hw
 go_enter Tryz.func38, Tryz.ntmps38
 go_wp2_with fail
 refine (rcut32 t HW.out hn w0 w _ hz HO.out).mono ?_
 rintro e w1 ⟨q, cp, rfl, hl1, ho1⟩
 have HO1 := Lib.hid ho1
 have c0 : w1.cell? ⟨q, 0, none⟩ = some (.string ⟨#[115, 101, 110, 100]⟩) := wcell hl1 (j := 0) rfl
 clear ho1 hl1
 go_wp2_with fail
 go_ret
 exact ⟨rfl, HO1.out⟩
theorem rl_come_len (w0 : World) (R : Thing) (g : Nat) (s : TkS) (t : ByteArray) (r : List (List UInt8)) (hr : r.length ≠ 1) (hw : cutAt 32 t.data.toList = wCome :: r) (hz : t.size ≤ 3000) (w : World) (ho : Own w0 [] w [rtT g s, R]) :
  Calls Tryz.prog 38 #[.pointer (some ⟨g, 0, none⟩), .string t] w fun e w' => e = .returned (.string ⟨#[98, 97, 100]⟩) ∧ Own w0 [] w' [rtT g s, R] := by
 have HO := Lib.hid ho
 have HW := Lib.hid hw
 obtain ⟨k, hk⟩ : ∃ k, r.length = k := ⟨_, rfl⟩
 obtain ⟨n, hn⟩ : ∃ n, (wCome :: r).length = n := ⟨_, rfl⟩
 have hnk : n = k + 1 := by rw [← hn, List.length_cons, hk]
 have hfw : n ≤ 3001 := by
  have := cutAt_few 32 t.data.toList
  rw [hw, hn, Array.length_toList] at this
  have hz' : t.data.size ≤ 3000 := hz
  omega
 have q0 : IntKind.i64.wrap ((n : Int) - 1) = (k : Int) := by rw [IntWalk.i64_in _ (by omega)]; omega
 have q1 : ((k : Int) != 1) = true := by
  have : (k : Int) ≠ 1 := by omega
  simpa using this
 have hn0 : 0 < n := by omega
 clear hr hk hnk hfw
 clear ho hw
 go_enter Tryz.func38, Tryz.ntmps38
 go_wp2_with fail
 refine (rcut32 t HW.out hn w0 w _ hz HO.out).mono ?_
 rintro e w1 ⟨q, cp, rfl, hl1, ho1⟩
 have HO1 := Lib.hid ho1
 have c0 : w1.cell? ⟨q, 0, none⟩ = some (.string ⟨#[99, 111, 109, 101]⟩) := wcell hl1 (j := 0) rfl
 clear ho1 hl1
 go_wp2_with fail
 go_ret
 exact ⟨rfl, HO1.out⟩
theorem rl_lose_len (w0 : World) (R : Thing) (g : Nat) (s : TkS) (t : ByteArray) (r : List (List UInt8)) (hr : r.length ≠ 1) (hw : cutAt 32 t.data.toList = wLose :: r) (hz : t.size ≤ 3000) (w : World) (ho : Own w0 [] w [rtT g s, R]) :
  Calls Tryz.prog 38 #[.pointer (some ⟨g, 0, none⟩), .string t] w fun e w' => e = .returned (.string ⟨#[98, 97, 100]⟩) ∧ Own w0 [] w' [rtT g s, R] := by
 have HO := Lib.hid ho
 have HW := Lib.hid hw
 obtain ⟨k, hk⟩ : ∃ k, r.length = k := ⟨_, rfl⟩
 obtain ⟨n, hn⟩ : ∃ n, (wLose :: r).length = n := ⟨_, rfl⟩
 have hnk : n = k + 1 := by rw [← hn, List.length_cons, hk]
 have hfw : n ≤ 3001 := by
  have := cutAt_few 32 t.data.toList
  rw [hw, hn, Array.length_toList] at this
  have hz' : t.data.size ≤ 3000 := hz
  omega
 have q0 : IntKind.i64.wrap ((n : Int) - 1) = (k : Int) := by rw [IntWalk.i64_in _ (by omega)]; omega
 have q1 : ((k : Int) != 1) = true := by
  have : (k : Int) ≠ 1 := by omega
  simpa using this
 have hn0 : 0 < n := by omega
 clear hr hk hnk hfw
 clear ho hw
 go_enter Tryz.func38, Tryz.ntmps38
 go_wp2_with fail
 refine (rcut32 t HW.out hn w0 w _ hz HO.out).mono ?_
 rintro e w1 ⟨q, cp, rfl, hl1, ho1⟩
 have HO1 := Lib.hid ho1
 have c0 : w1.cell? ⟨q, 0, none⟩ = some (.string ⟨#[108, 111, 115, 101]⟩) := wcell hl1 (j := 0) rfl
 clear ho1 hl1
 go_wp2_with fail
 go_ret
 exact ⟨rfl, HO1.out⟩
theorem rl_twice_len (w0 : World) (R : Thing) (g : Nat) (s : TkS) (t : ByteArray) (r : List (List UInt8)) (hr : r.length ≠ 1) (hw : cutAt 32 t.data.toList = wTwice :: r) (hz : t.size ≤ 3000) (w : World) (ho : Own w0 [] w [rtT g s, R]) :
  Calls Tryz.prog 38 #[.pointer (some ⟨g, 0, none⟩), .string t] w fun e w' => e = .returned (.string ⟨#[98, 97, 100]⟩) ∧ Own w0 [] w' [rtT g s, R] := by
 have HO := Lib.hid ho
 have HW := Lib.hid hw
 obtain ⟨k, hk⟩ : ∃ k, r.length = k := ⟨_, rfl⟩
 obtain ⟨n, hn⟩ : ∃ n, (wTwice :: r).length = n := ⟨_, rfl⟩
 have hnk : n = k + 1 := by rw [← hn, List.length_cons, hk]
 have hfw : n ≤ 3001 := by
  have := cutAt_few 32 t.data.toList
  rw [hw, hn, Array.length_toList] at this
  have hz' : t.data.size ≤ 3000 := hz
  omega
 have q0 : IntKind.i64.wrap ((n : Int) - 1) = (k : Int) := by rw [IntWalk.i64_in _ (by omega)]; omega
 have q1 : ((k : Int) != 1) = true := by
  have : (k : Int) ≠ 1 := by omega
  simpa using this
 have hn0 : 0 < n := by omega
 clear hr hk hnk hfw
 clear ho hw
 go_enter Tryz.func38, Tryz.ntmps38
 go_wp2_with fail
 refine (rcut32 t HW.out hn w0 w _ hz HO.out).mono ?_
 rintro e w1 ⟨q, cp, rfl, hl1, ho1⟩
 have HO1 := Lib.hid ho1
 have c0 : w1.cell? ⟨q, 0, none⟩ = some (.string ⟨#[116, 119, 105, 99, 101]⟩) := wcell hl1 (j := 0) rfl
 clear ho1 hl1
 go_wp2_with fail
 go_ret
 exact ⟨rfl, HO1.out⟩
theorem rl_read_len (w0 : World) (R : Thing) (g : Nat) (s : TkS) (t : ByteArray) (r : List (List UInt8)) (hr : r.length ≠ 2) (hw : cutAt 32 t.data.toList = wRead :: r) (hz : t.size ≤ 3000) (w : World) (ho : Own w0 [] w [rtT g s, R]) :
  Calls Tryz.prog 38 #[.pointer (some ⟨g, 0, none⟩), .string t] w fun e w' => e = .returned (.string ⟨#[98, 97, 100]⟩) ∧ Own w0 [] w' [rtT g s, R] := by
 have HO := Lib.hid ho
 have HW := Lib.hid hw
 obtain ⟨k, hk⟩ : ∃ k, r.length = k := ⟨_, rfl⟩
 obtain ⟨n, hn⟩ : ∃ n, (wRead :: r).length = n := ⟨_, rfl⟩
 have hnk : n = k + 1 := by rw [← hn, List.length_cons, hk]
 have hfw : n ≤ 3001 := by
  have := cutAt_few 32 t.data.toList
  rw [hw, hn, Array.length_toList] at this
  have hz' : t.data.size ≤ 3000 := hz
  omega
 have q0 : IntKind.i64.wrap ((n : Int) - 1) = (k : Int) := by rw [IntWalk.i64_in _ (by omega)]; omega
 have q1 : ((k : Int) != 2) = true := by
  have : (k : Int) ≠ 2 := by omega
  simpa using this
 have hn0 : 0 < n := by omega
 clear hr hk hnk hfw
 clear ho hw
 go_enter Tryz.func38, Tryz.ntmps38
 go_wp2_with fail
 refine (rcut32 t HW.out hn w0 w _ hz HO.out).mono ?_
 rintro e w1 ⟨q, cp, rfl, hl1, ho1⟩
 have HO1 := Lib.hid ho1
 have c0 : w1.cell? ⟨q, 0, none⟩ = some (.string ⟨#[114, 101, 97, 100]⟩) := wcell hl1 (j := 0) rfl
 clear ho1 hl1
 go_wp2_with fail
 go_ret
 exact ⟨rfl, HO1.out⟩
theorem rl_varint_len (w0 : World) (R : Thing) (g : Nat) (s : TkS) (t : ByteArray) (r : List (List UInt8)) (hr : r.length ≠ 1) (hw : cutAt 32 t.data.toList = wVarint :: r) (hz : t.size ≤ 3000) (w : World) (ho : Own w0 [] w [rtT g s, R]) :
  Calls Tryz.prog 38 #[.pointer (some ⟨g, 0, none⟩), .string t] w fun e w' => e = .returned (.string ⟨#[98, 97, 100]⟩) ∧ Own w0 [] w' [rtT g s, R] := by
 have HO := Lib.hid ho
 have HW := Lib.hid hw
 obtain ⟨k, hk⟩ : ∃ k, r.length = k := ⟨_, rfl⟩
 obtain ⟨n, hn⟩ : ∃ n, (wVarint :: r).length = n := ⟨_, rfl⟩
 have hnk : n = k + 1 := by rw [← hn, List.length_cons, hk]
 have hfw : n ≤ 3001 := by
  have := cutAt_few 32 t.data.toList
  rw [hw, hn, Array.length_toList] at this
  have hz' : t.data.size ≤ 3000 := hz
  omega
 have q0 : IntKind.i64.wrap ((n : Int) - 1) = (k : Int) := by rw [IntWalk.i64_in _ (by omega)]; omega
 have q1 : ((k : Int) != 1) = true := by
  have : (k : Int) ≠ 1 := by omega
  simpa using this
 have hn0 : 0 < n := by omega
 clear hr hk hnk hfw
 clear ho hw
 go_enter Tryz.func38, Tryz.ntmps38
 go_wp2_with fail
 refine (rcut32 t HW.out hn w0 w _ hz HO.out).mono ?_
 rintro e w1 ⟨q, cp, rfl, hl1, ho1⟩
 have HO1 := Lib.hid ho1
 have c0 : w1.cell? ⟨q, 0, none⟩ = some (.string ⟨#[118, 97, 114, 105, 110, 116]⟩) := wcell hl1 (j := 0) rfl
 clear ho1 hl1
 go_wp2_with fail
 go_ret
 exact ⟨rfl, HO1.out⟩
theorem rl_need_len (w0 : World) (R : Thing) (g : Nat) (s : TkS) (t : ByteArray) (r : List (List UInt8)) (hr : r.length ≠ 2) (hw : cutAt 32 t.data.toList = wNeed :: r) (hz : t.size ≤ 3000) (w : World) (ho : Own w0 [] w [rtT g s, R]) :
  Calls Tryz.prog 38 #[.pointer (some ⟨g, 0, none⟩), .string t] w fun e w' => e = .returned (.string ⟨#[98, 97, 100]⟩) ∧ Own w0 [] w' [rtT g s, R] := by
 have HO := Lib.hid ho
 have HW := Lib.hid hw
 obtain ⟨k, hk⟩ : ∃ k, r.length = k := ⟨_, rfl⟩
 obtain ⟨n, hn⟩ : ∃ n, (wNeed :: r).length = n := ⟨_, rfl⟩
 have hnk : n = k + 1 := by rw [← hn, List.length_cons, hk]
 have hfw : n ≤ 3001 := by
  have := cutAt_few 32 t.data.toList
  rw [hw, hn, Array.length_toList] at this
  have hz' : t.data.size ≤ 3000 := hz
  omega
 have q0 : IntKind.i64.wrap ((n : Int) - 1) = (k : Int) := by rw [IntWalk.i64_in _ (by omega)]; omega
 have q1 : ((k : Int) != 2) = true := by
  have : (k : Int) ≠ 2 := by omega
  simpa using this
 have hn0 : 0 < n := by omega
 clear hr hk hnk hfw
 clear ho hw
 go_enter Tryz.func38, Tryz.ntmps38
 go_wp2_with fail
 refine (rcut32 t HW.out hn w0 w _ hz HO.out).mono ?_
 rintro e w1 ⟨q, cp, rfl, hl1, ho1⟩
 have HO1 := Lib.hid ho1
 have c0 : w1.cell? ⟨q, 0, none⟩ = some (.string ⟨#[110, 101, 101, 100]⟩) := wcell hl1 (j := 0) rfl
 clear ho1 hl1
 go_wp2_with fail
 go_ret
 exact ⟨rfl, HO1.out⟩
theorem rl_count_len (w0 : World) (R : Thing) (g : Nat) (s : TkS) (t : ByteArray) (r : List (List UInt8)) (hr : r.length ≠ 0) (hw : cutAt 32 t.data.toList = wCount :: r) (hz : t.size ≤ 3000) (w : World) (ho : Own w0 [] w [rtT g s, R]) :
  Calls Tryz.prog 38 #[.pointer (some ⟨g, 0, none⟩), .string t] w fun e w' => e = .returned (.string ⟨#[98, 97, 100]⟩) ∧ Own w0 [] w' [rtT g s, R] := by
 have HO := Lib.hid ho
 have HW := Lib.hid hw
 obtain ⟨k, hk⟩ : ∃ k, r.length = k := ⟨_, rfl⟩
 obtain ⟨n, hn⟩ : ∃ n, (wCount :: r).length = n := ⟨_, rfl⟩
 have hnk : n = k + 1 := by rw [← hn, List.length_cons, hk]
 have hfw : n ≤ 3001 := by
  have := cutAt_few 32 t.data.toList
  rw [hw, hn, Array.length_toList] at this
  have hz' : t.data.size ≤ 3000 := hz
  omega
 have q0 : IntKind.i64.wrap ((n : Int) - 1) = (k : Int) := by rw [IntWalk.i64_in _ (by omega)]; omega
 have q1 : ((k : Int) != 0) = true := by
  have : (k : Int) ≠ 0 := by omega
  simpa using this
 have hn0 : 0 < n := by omega
 clear hr hk hnk hfw
 clear ho hw
 go_enter Tryz.func38, Tryz.ntmps38
 go_wp2_with fail
 refine (rcut32 t HW.out hn w0 w _ hz HO.out).mono ?_
 rintro e w1 ⟨q, cp, rfl, hl1, ho1⟩
 have HO1 := Lib.hid ho1
 have c0 : w1.cell? ⟨q, 0, none⟩ = some (.string ⟨#[99, 111, 117, 110, 116]⟩) := wcell hl1 (j := 0) rfl
 clear ho1 hl1
 go_wp2_with fail
 go_ret
 exact ⟨rfl, HO1.out⟩
theorem rl_send_no (w0 : World) (R : Thing) (g : Nat) (s : TkS) (t : ByteArray) (a : List UInt8) (hn1 : dgN a = none) (hw : cutAt 32 t.data.toList = [wSend, a]) (hz : t.size ≤ 3000) (w : World) (ho : Own w0 [] w [rtT g s, R]) :
  Calls Tryz.prog 38 #[.pointer (some ⟨g, 0, none⟩), .string t] w fun e w' => e = .returned (.string ⟨#[98, 97, 100]⟩) ∧ Own w0 [] w' [rtT g s, R] := by
 have HO := Lib.hid ho
 have HW := Lib.hid hw
 have HN1 := Lib.hid hn1
 clear hn1
 clear ho hw
 go_enter Tryz.func38, Tryz.ntmps38
 go_wp2_with fail
 refine (rcut32 t HW.out rfl w0 w _ hz HO.out).mono ?_
 rintro e w1 ⟨q, cp, rfl, hl1, ho1⟩
 have HO1 := Lib.hid ho1
 have c0 : w1.cell? ⟨q, 0, none⟩ = some (.string ⟨#[115, 101, 110, 100]⟩) := wcell hl1 (j := 0) rfl
 have c1 : w1.cell? ⟨q, 1, none⟩ = some (.string ⟨a.toArray⟩) := wcell hl1 (j := 1) rfl
 obtain ⟨A1, hA1⟩ : ∃ A : ByteArray, A = ⟨a.toArray⟩ := ⟨_, rfl⟩
 rw [← hA1] at c1
 have HNU1 := Lib.hid (numb_no hA1 HN1.out)
 clear ho1 hl1 hA1
 go_wp2_with fail
 refine wp_loop_rounds 1 ?_
 rw [rounds_succ]
 go_wp2_with fail
 refine (HNU1.out _).mono ?_
 rintro e w2 ⟨rfl, rfl⟩
 go_wp2_with fail
 go_ret
 exact ⟨rfl, HO1.out⟩
theorem rl_come_no (w0 : World) (R : Thing) (g : Nat) (s : TkS) (t : ByteArray) (a : List UInt8) (hn1 : dgN a = none) (hw : cutAt 32 t.data.toList = [wCome, a]) (hz : t.size ≤ 3000) (w : World) (ho : Own w0 [] w [rtT g s, R]) :
  Calls Tryz.prog 38 #[.pointer (some ⟨g, 0, none⟩), .string t] w fun e w' => e = .returned (.string ⟨#[98, 97, 100]⟩) ∧ Own w0 [] w' [rtT g s, R] := by
 have HO := Lib.hid ho
 have HW := Lib.hid hw
 have HN1 := Lib.hid hn1
 clear hn1
 clear ho hw
 go_enter Tryz.func38, Tryz.ntmps38
 go_wp2_with fail
 refine (rcut32 t HW.out rfl w0 w _ hz HO.out).mono ?_
 rintro e w1 ⟨q, cp, rfl, hl1, ho1⟩
 have HO1 := Lib.hid ho1
 have c0 : w1.cell? ⟨q, 0, none⟩ = some (.string ⟨#[99, 111, 109, 101]⟩) := wcell hl1 (j := 0) rfl
 have c1 : w1.cell? ⟨q, 1, none⟩ = some (.string ⟨a.toArray⟩) := wcell hl1 (j := 1) rfl
 obtain ⟨A1, hA1⟩ : ∃ A : ByteArray, A = ⟨a.toArray⟩ := ⟨_, rfl⟩
 rw [← hA1] at c1
 have HNU1 := Lib.hid (numb_no hA1 HN1.out)
 clear ho1 hl1 hA1
 go_wp2_with fail
 refine wp_loop_rounds 1 ?_
 rw [rounds_succ]
 go_wp2_with fail
 refine (HNU1.out _).mono ?_
 rintro e w2 ⟨rfl, rfl⟩
 go_wp2_with fail
 go_ret
 exact ⟨rfl, HO1.out⟩
theorem rl_lose_no (w0 : World) (R : Thing) (g : Nat) (s : TkS) (t : ByteArray) (a : List UInt8) (hn1 : dgN a = none) (hw : cutAt 32 t.data.toList = [wLose, a]) (hz : t.size ≤ 3000) (w : World) (ho : Own w0 [] w [rtT g s, R]) :
  Calls Tryz.prog 38 #[.pointer (some ⟨g, 0, none⟩), .string t] w fun e w' => e = .returned (.string ⟨#[98, 97, 100]⟩) ∧ Own w0 [] w' [rtT g s, R] := by
 have HO := Lib.hid ho
 have HW := Lib.hid hw
 have HN1 := Lib.hid hn1
 clear hn1
 clear ho hw
 go_enter Tryz.func38, Tryz.ntmps38
 go_wp2_with fail
 refine (rcut32 t HW.out rfl w0 w _ hz HO.out).mono ?_
 rintro e w1 ⟨q, cp, rfl, hl1, ho1⟩
 have HO1 := Lib.hid ho1
 have c0 : w1.cell? ⟨q, 0, none⟩ = some (.string ⟨#[108, 111, 115, 101]⟩) := wcell hl1 (j := 0) rfl
 have c1 : w1.cell? ⟨q, 1, none⟩ = some (.string ⟨a.toArray⟩) := wcell hl1 (j := 1) rfl
 obtain ⟨A1, hA1⟩ : ∃ A : ByteArray, A = ⟨a.toArray⟩ := ⟨_, rfl⟩
 rw [← hA1] at c1
 have HNU1 := Lib.hid (numb_no hA1 HN1.out)
 clear ho1 hl1 hA1
 go_wp2_with fail
 refine wp_loop_rounds 1 ?_
 rw [rounds_succ]
 go_wp2_with fail
 refine (HNU1.out _).mono ?_
 rintro e w2 ⟨rfl, rfl⟩
 go_wp2_with fail
 go_ret
 exact ⟨rfl, HO1.out⟩
theorem rl_twice_no (w0 : World) (R : Thing) (g : Nat) (s : TkS) (t : ByteArray) (a : List UInt8) (hn1 : dgN a = none) (hw : cutAt 32 t.data.toList = [wTwice, a]) (hz : t.size ≤ 3000) (w : World) (ho : Own w0 [] w [rtT g s, R]) :
  Calls Tryz.prog 38 #[.pointer (some ⟨g, 0, none⟩), .string t] w fun e w' => e = .returned (.string ⟨#[98, 97, 100]⟩) ∧ Own w0 [] w' [rtT g s, R] := by
 have HO := Lib.hid ho
 have HW := Lib.hid hw
 have HN1 := Lib.hid hn1
 clear hn1
 clear ho hw
 go_enter Tryz.func38, Tryz.ntmps38
 go_wp2_with fail
 refine (rcut32 t HW.out rfl w0 w _ hz HO.out).mono ?_
 rintro e w1 ⟨q, cp, rfl, hl1, ho1⟩
 have HO1 := Lib.hid ho1
 have c0 : w1.cell? ⟨q, 0, none⟩ = some (.string ⟨#[116, 119, 105, 99, 101]⟩) := wcell hl1 (j := 0) rfl
 have c1 : w1.cell? ⟨q, 1, none⟩ = some (.string ⟨a.toArray⟩) := wcell hl1 (j := 1) rfl
 obtain ⟨A1, hA1⟩ : ∃ A : ByteArray, A = ⟨a.toArray⟩ := ⟨_, rfl⟩
 rw [← hA1] at c1
 have HNU1 := Lib.hid (numb_no hA1 HN1.out)
 clear ho1 hl1 hA1
 go_wp2_with fail
 refine wp_loop_rounds 1 ?_
 rw [rounds_succ]
 go_wp2_with fail
 refine (HNU1.out _).mono ?_
 rintro e w2 ⟨rfl, rfl⟩
 go_wp2_with fail
 go_ret
 exact ⟨rfl, HO1.out⟩
theorem rl_varint_no (w0 : World) (R : Thing) (g : Nat) (s : TkS) (t : ByteArray) (a : List UInt8) (hn1 : dgN a = none) (hw : cutAt 32 t.data.toList = [wVarint, a]) (hz : t.size ≤ 3000) (w : World) (ho : Own w0 [] w [rtT g s, R]) :
  Calls Tryz.prog 38 #[.pointer (some ⟨g, 0, none⟩), .string t] w fun e w' => e = .returned (.string ⟨#[98, 97, 100]⟩) ∧ Own w0 [] w' [rtT g s, R] := by
 have HO := Lib.hid ho
 have HW := Lib.hid hw
 have HN1 := Lib.hid hn1
 clear hn1
 clear ho hw
 go_enter Tryz.func38, Tryz.ntmps38
 go_wp2_with fail
 refine (rcut32 t HW.out rfl w0 w _ hz HO.out).mono ?_
 rintro e w1 ⟨q, cp, rfl, hl1, ho1⟩
 have HO1 := Lib.hid ho1
 have c0 : w1.cell? ⟨q, 0, none⟩ = some (.string ⟨#[118, 97, 114, 105, 110, 116]⟩) := wcell hl1 (j := 0) rfl
 have c1 : w1.cell? ⟨q, 1, none⟩ = some (.string ⟨a.toArray⟩) := wcell hl1 (j := 1) rfl
 obtain ⟨A1, hA1⟩ : ∃ A : ByteArray, A = ⟨a.toArray⟩ := ⟨_, rfl⟩
 rw [← hA1] at c1
 have HNU1 := Lib.hid (numb_no hA1 HN1.out)
 clear ho1 hl1 hA1
 go_wp2_with fail
 refine wp_loop_rounds 1 ?_
 rw [rounds_succ]
 go_wp2_with fail
 refine (HNU1.out _).mono ?_
 rintro e w2 ⟨rfl, rfl⟩
 go_wp2_with fail
 go_ret
 exact ⟨rfl, HO1.out⟩
theorem rl_send (w0 : World) (R : Thing) (g : Nat) (s : TkS) (t : ByteArray) (a : List UInt8) (n1 : Nat) (hn1 : dgN a = some n1) (hf : Few s 1000) (hw : cutAt 32 t.data.toList = [wSend, a]) (hz : t.size ≤ 3000) (w : World) (ho : Own w0 [] w [rtT g s, R]) :
  Calls Tryz.prog 38 #[.pointer (some ⟨g, 0, none⟩), .string t] w fun e w' => e = .returned (.string (doneV (s.sendE n1))) ∧ Own w0 [] w' [rtT g (s.send n1), R] := by
 have HO := Lib.hid ho
 have HW := Lib.hid hw
 have HN1 := Lib.hid hn1
 clear hn1
 clear ho hw
 go_enter Tryz.func38, Tryz.ntmps38
 go_wp2_with fail
 refine (rcut32 t HW.out rfl w0 w _ hz HO.out).mono ?_
 rintro e w1 ⟨q, cp, rfl, hl1, ho1⟩
 have HO1 := Lib.hid ho1
 have c0 : w1.cell? ⟨q, 0, none⟩ = some (.string ⟨#[115, 101, 110, 100]⟩) := wcell hl1 (j := 0) rfl
 have c1 : w1.cell? ⟨q, 1, none⟩ = some (.string ⟨a.toArray⟩) := wcell hl1 (j := 1) rfl
 obtain ⟨A1, hA1⟩ : ∃ A : ByteArray, A = ⟨a.toArray⟩ := ⟨_, rfl⟩
 rw [← hA1] at c1
 have HNU1 := Lib.hid (numb_yes hA1 HN1.out)
 clear ho1 hl1 hA1
 go_wp2_with fail
 refine wp_loop_rounds 2 ?_
 rw [rounds_succ]
 go_wp2_with fail
 refine (HNU1.out _).mono ?_
 rintro e w2 ⟨rfl, rfl⟩
 go_wp2_with (at_builtin; refine wpList_push rfl _ _ 22 rfl 3 1 8 Tryz.elInt (.slice none 0 0) [] rfl (Lst.nil _ _ _) w2.heap.size 1 [.int .i64 n1] rfl rfl (intRow_one n1).2 (BlockIs.fresh _ _ _) (by decide) ?_; intro qn cn w5 hl5 ho5 hq5 hlt5)
 obtain ⟨hs5, hqn, hO5, d0⟩ := rl_push1 HO1.out hl5 ho5 hq5
 have HO5 := Lib.hid hO5
 have e0 := hs5.cell (World.block_lt_of_cell? _ _ c0) c0
 have e1 := hs5.cell (World.block_lt_of_cell? _ _ c1) c1
 clear hl5 ho5 hq5 hqn hO5
 rw [rounds_succ]
 go_wp2_with fail
 obtain ⟨S, hS, up⟩ := HO5.out.at_ 0 rfl
 refine (rsend g s n1 _ S hS (hf.of n1)).mono ?_
 rintro e w6 ⟨rfl, hl6⟩
 have HO6 := Lib.hid (up _ _ hl6)
 have he := sendE_nine s n1
 clear hl6 up hS
 go_wp2_with fail
 refine (rdone _ he.1 he.2 _).mono ?_
 rintro e w7 ⟨rfl, hs7⟩
 go_wp2_with fail
 go_ret
 exact ⟨rfl, (HO6.out.later hs7).take 2⟩
theorem rl_come (w0 : World) (R : Thing) (g : Nat) (s : TkS) (t : ByteArray) (a : List UInt8) (n1 : Nat) (hn1 : dgN a = some n1) (hf : Few s 1000) (hw : cutAt 32 t.data.toList = [wCome, a]) (hz : t.size ≤ 3000) (w : World) (ho : Own w0 [] w [rtT g s, R]) :
  Calls Tryz.prog 38 #[.pointer (some ⟨g, 0, none⟩), .string t] w fun e w' => e = .returned (.string (doneV (s.comeE n1))) ∧ Own w0 [] w' [rtT g (s.come n1), R] := by
 have HO := Lib.hid ho
 have HW := Lib.hid hw
 have HN1 := Lib.hid hn1
 clear hn1
 clear ho hw
 go_enter Tryz.func38, Tryz.ntmps38
 go_wp2_with fail
 refine (rcut32 t HW.out rfl w0 w _ hz HO.out).mono ?_
 rintro e w1 ⟨q, cp, rfl, hl1, ho1⟩
 have HO1 := Lib.hid ho1
 have c0 : w1.cell? ⟨q, 0, none⟩ = some (.string ⟨#[99, 111, 109, 101]⟩) := wcell hl1 (j := 0) rfl
 have c1 : w1.cell? ⟨q, 1, none⟩ = some (.string ⟨a.toArray⟩) := wcell hl1 (j := 1) rfl
 obtain ⟨A1, hA1⟩ : ∃ A : ByteArray, A = ⟨a.toArray⟩ := ⟨_, rfl⟩
 rw [← hA1] at c1
 have HNU1 := Lib.hid (numb_yes hA1 HN1.out)
 clear ho1 hl1 hA1
 go_wp2_with fail
 refine wp_loop_rounds 2 ?_
 rw [rounds_succ]
 go_wp2_with fail
 refine (HNU1.out _).mono ?_
 rintro e w2 ⟨rfl, rfl⟩
 go_wp2_with (at_builtin; refine wpList_push rfl _ _ 22 rfl 3 1 8 Tryz.elInt (.slice none 0 0) [] rfl (Lst.nil _ _ _) w2.heap.size 1 [.int .i64 n1] rfl rfl (intRow_one n1).2 (BlockIs.fresh _ _ _) (by decide) ?_; intro qn cn w5 hl5 ho5 hq5 hlt5)
 obtain ⟨hs5, hqn, hO5, d0⟩ := rl_push1 HO1.out hl5 ho5 hq5
 have HO5 := Lib.hid hO5
 have e0 := hs5.cell (World.block_lt_of_cell? _ _ c0) c0
 have e1 := hs5.cell (World.block_lt_of_cell? _ _ c1) c1
 clear hl5 ho5 hq5 hqn hO5
 rw [rounds_succ]
 go_wp2_with fail
 obtain ⟨S, hS, up⟩ := HO5.out.at_ 0 rfl
 refine (rcome g s n1 _ S hS hf.1 hf.2).mono ?_
 rintro e w6 ⟨rfl, hl6⟩
 have HO6 := Lib.hid (up _ _ hl6)
 have he := comeE_nine s n1
 clear hl6 up hS
 go_wp2_with fail
 refine (rdone _ he.1 he.2 _).mono ?_
 rintro e w7 ⟨rfl, hs7⟩
 go_wp2_with fail
 go_ret
 exact ⟨rfl, (HO6.out.later hs7).take 2⟩
theorem rl_lose (w0 : World) (R : Thing) (g : Nat) (s : TkS) (t : ByteArray) (a : List UInt8) (n1 : Nat) (hn1 : dgN a = some n1) (hw : cutAt 32 t.data.toList = [wLose, a]) (hz : t.size ≤ 3000) (w : World) (ho : Own w0 [] w [rtT g s, R]) :
  Calls Tryz.prog 38 #[.pointer (some ⟨g, 0, none⟩), .string t] w fun e w' => e = .returned (.string (doneV (giveE s.L n1))) ∧ Own w0 [] w' [rtT g { s with L := giveL s.L n1 }, R] := by
 have HO := Lib.hid ho
 have HW := Lib.hid hw
 have HN1 := Lib.hid hn1
 clear hn1
 clear ho hw
 go_enter Tryz.func38, Tryz.ntmps38
 go_wp2_with fail
 refine (rcut32 t HW.out rfl w0 w _ hz HO.out).mono ?_
 rintro e w1 ⟨q, cp, rfl, hl1, ho1⟩
 have HO1 := Lib.hid ho1
 have c0 : w1.cell? ⟨q, 0, none⟩ = some (.string ⟨#[108, 111, 115, 101]⟩) := wcell hl1 (j := 0) rfl
 have c1 : w1.cell? ⟨q, 1, none⟩ = some (.string ⟨a.toArray⟩) := wcell hl1 (j := 1) rfl
 obtain ⟨A1, hA1⟩ : ∃ A : ByteArray, A = ⟨a.toArray⟩ := ⟨_, rfl⟩
 rw [← hA1] at c1
 have HNU1 := Lib.hid (numb_yes hA1 HN1.out)
 clear ho1 hl1 hA1
 go_wp2_with fail
 refine wp_loop_rounds 2 ?_
 rw [rounds_succ]
 go_wp2_with fail
 refine (HNU1.out _).mono ?_
 rintro e w2 ⟨rfl, rfl⟩
 go_wp2_with (at_builtin; refine wpList_push rfl _ _ 22 rfl 3 1 8 Tryz.elInt (.slice none 0 0) [] rfl (Lst.nil _ _ _) w2.heap.size 1 [.int .i64 n1] rfl rfl (intRow_one n1).2 (BlockIs.fresh _ _ _) (by decide) ?_; intro qn cn w5 hl5 ho5 hq5 hlt5)
 obtain ⟨hs5, hqn, hO5, d0⟩ := rl_push1 HO1.out hl5 ho5 hq5
 have HO5 := Lib.hid hO5
 have e0 := hs5.cell (World.block_lt_of_cell? _ _ c0) c0
 have e1 := hs5.cell (World.block_lt_of_cell? _ _ c1) c1
 clear hl5 ho5 hq5 hqn hO5
 rw [rounds_succ]
 go_wp2_with fail
 obtain ⟨S, hS, up⟩ := HO5.out.at_ 0 rfl
 refine (rlose g s n1 _ S hS).mono ?_
 rintro e w6 ⟨rfl, hl6⟩
 have HO6 := Lib.hid (up _ _ hl6)
 have he := giveE_nine s.L n1
 clear hl6 up hS
 go_wp2_with fail
 refine (rdone _ he.1 he.2 _).mono ?_
 rintro e w7 ⟨rfl, hs7⟩
 go_wp2_with fail
 go_ret
 exact ⟨rfl, (HO6.out.later (by refine Since.later ?_ hs7; exact (by exact Since.alloc (Since.refl _) _))).take 2⟩
theorem rl_twice (w0 : World) (R : Thing) (g : Nat) (s : TkS) (t : ByteArray) (a : List UInt8) (n1 : Nat) (hn1 : dgN a = some n1) (hw : cutAt 32 t.data.toList = [wTwice, a]) (hz : t.size ≤ 3000) (w : World) (ho : Own w0 [] w [rtT g s, R]) :
  Calls Tryz.prog 38 #[.pointer (some ⟨g, 0, none⟩), .string t] w fun e w' => e = .returned (.string (doneV (twiceE s.L n1))) ∧ Own w0 [] w' [rtT g { s with L := twiceL s.L n1 }, R] := by
 have HO := Lib.hid ho
 have HW := Lib.hid hw
 have HN1 := Lib.hid hn1
 clear hn1
 clear ho hw
 go_enter Tryz.func38, Tryz.ntmps38
 go_wp2_with fail
 refine (rcut32 t HW.out rfl w0 w _ hz HO.out).mono ?_
 rintro e w1 ⟨q, cp, rfl, hl1, ho1⟩
 have HO1 := Lib.hid ho1
 have c0 : w1.cell? ⟨q, 0, none⟩ = some (.string ⟨#[116, 119, 105, 99, 101]⟩) := wcell hl1 (j := 0) rfl
 have c1 : w1.cell? ⟨q, 1, none⟩ = some (.string ⟨a.toArray⟩) := wcell hl1 (j := 1) rfl
 obtain ⟨A1, hA1⟩ : ∃ A : ByteArray, A = ⟨a.toArray⟩ := ⟨_, rfl⟩
 rw [← hA1] at c1
 have HNU1 := Lib.hid (numb_yes hA1 HN1.out)
 clear ho1 hl1 hA1
 go_wp2_with fail
 refine wp_loop_rounds 2 ?_
 rw [rounds_succ]
 go_wp2_with fail
 refine (HNU1.out _).mono ?_
 rintro e w2 ⟨rfl, rfl⟩
 go_wp2_with (at_builtin; refine wpList_push rfl _ _ 22 rfl 3 1 8 Tryz.elInt (.slice none 0 0) [] rfl (Lst.nil _ _ _) w2.heap.size 1 [.int .i64 n1] rfl rfl (intRow_one n1).2 (BlockIs.fresh _ _ _) (by decide) ?_; intro qn cn w5 hl5 ho5 hq5 hlt5)
 obtain ⟨hs5, hqn, hO5, d0⟩ := rl_push1 HO1.out hl5 ho5 hq5
 have HO5 := Lib.hid hO5
 have e0 := hs5.cell (World.block_lt_of_cell? _ _ c0) c0
 have e1 := hs5.cell (World.block_lt_of_cell? _ _ c1) c1
 clear hl5 ho5 hq5 hqn hO5
 rw [rounds_succ]
 go_wp2_with fail
 obtain ⟨S, hS, up⟩ := HO5.out.at_ 0 rfl
 refine (rtwice g s n1 _ S hS (twice_ok (rt_ok hS))).mono ?_
 rintro e w6 ⟨rfl, hl6⟩
 have HO6 := Lib.hid (up _ _ hl6)
 have he := twiceE_nine s.L n1
 clear hl6 up hS
 go_wp2_with fail
 refine (rdone _ he.1 he.2 _).mono ?_
 rintro e w7 ⟨rfl, hs7⟩
 go_wp2_with fail
 go_ret
 exact ⟨rfl, (HO6.out.later hs7).take 2⟩
theorem rl_other (w0 : World) (R : Thing) (g : Nat) (s : TkS) (t : ByteArray) (x : List UInt8) (r : List (List UInt8)) (hx : ¬ (manyOf x).isSome = true) (hw : cutAt 32 t.data.toList = x :: r) (hz : t.size ≤ 3000) (w : World) (ho : Own w0 [] w [rtT g s, R]) :
  Calls Tryz.prog 38 #[.pointer (some ⟨g, 0, none⟩), .string t] w fun e w' => e = .returned (.string ⟨#[98, 97, 100]⟩) ∧ Own w0 [] w' [rtT g s, R] := by
 have HO := Lib.hid ho
 have HW := Lib.hid hw
 obtain ⟨X, hX⟩ : ∃ X : ByteArray, X = ⟨x.toArray⟩ := ⟨_, rfl⟩
 have q_write : (X.toList == [119, 114, 105, 116, 101]) = false := by
  rw [beq_eq_false_iff_ne]
  intro e
  rw [hX, Lib.toList_data] at e
  have e' : x = [119, 114, 105, 116, 101] := by simpa using e
  exact hx (by rw [e']; decide)
 have q_send : (X.toList == [115, 101, 110, 100]) = false := by
  rw [beq_eq_false_iff_ne]
  intro e
  rw [hX, Lib.toList_data] at e
  have e' : x = [115, 101, 110, 100] := by simpa using e
  exact hx (by rw [e']; decide)
 have q_come : (X.toList == [99, 111, 109, 101]) = false := by
  rw [beq_eq_false_iff_ne]
  intro e
  rw [hX, Lib.toList_data] at e
  have e' : x = [99, 111, 109, 101] := by simpa using e
  exact hx (by rw [e']; decide)
 have q_lose : (X.toList == [108, 111, 115, 101]) = false := by
  rw [beq_eq_false_iff_ne]
  intro e
  rw [hX, Lib.toList_data] at e
  have e' : x = [108, 111, 115, 101] := by simpa using e
  exact hx (by rw [e']; decide)
 have q_twice : (X.toList == [116, 119, 105, 99, 101]) = false := by
  rw [beq_eq_false_iff_ne]
  intro e
  rw [hX, Lib.toList_data] at e
  have e' : x = [116, 119, 105, 99, 101] := by simpa using e
  exact hx (by rw [e']; decide)
 have q_read : (X.toList == [114, 101, 97, 100]) = false := by
  rw [beq_eq_false_iff_ne]
  intro e
  rw [hX, Lib.toList_data] at e
  have e' : x = [114, 101, 97, 100] := by simpa using e
  exact hx (by rw [e']; decide)
 have q_varint : (X.toList == [118, 97, 114, 105, 110, 116]) = false := by
  rw [beq_eq_false_iff_ne]
  intro e
  rw [hX, Lib.toList_data] at e
  have e' : x = [118, 97, 114, 105, 110, 116] := by simpa using e
  exact hx (by rw [e']; decide)
 have q_need : (X.toList == [110, 101, 101, 100]) = false := by
  rw [beq_eq_false_iff_ne]
  intro e
  rw [hX, Lib.toList_data] at e
  have e' : x = [110, 101, 101, 100] := by simpa using e
  exact hx (by rw [e']; decide)
 have q_count : (X.toList == [99, 111, 117, 110, 116]) = false := by
  rw [beq_eq_false_iff_ne]
  intro e
  rw [hX, Lib.toList_data] at e
  have e' : x = [99, 111, 117, 110, 116] := by simpa using e
  exact hx (by rw [e']; decide)
 obtain ⟨k, hk⟩ : ∃ k, r.length = k := ⟨_, rfl⟩
 obtain ⟨n, hn⟩ : ∃ n, (x :: r).length = n := ⟨_, rfl⟩
 have hnk : n = k + 1 := by rw [← hn, List.length_cons, hk]
 have hfw : n ≤ 3001 := by
  have := cutAt_few 32 t.data.toList
  rw [hw, hn, Array.length_toList] at this
  have hz' : t.data.size ≤ 3000 := hz
  omega
 have q0 : IntKind.i64.wrap ((n : Int) - 1) = (k : Int) := by rw [IntWalk.i64_in _ (by omega)]; omega
 have q1 : ((k : Int) != -1) = true := by rw [bne_iff_ne]; omega
 have hn0 : 0 < n := by omega
 clear hx hk hnk hfw
 clear ho hw
 go_enter Tryz.func38, Tryz.ntmps38
 go_wp2_with fail
 refine (rcut32 t HW.out hn w0 w _ hz HO.out).mono ?_
 rintro e w1 ⟨q, cp, rfl, hl1, ho1⟩
 have HO1 := Lib.hid ho1
 have c0 : w1.cell? ⟨q, 0, none⟩ = some (.string X) := by rw [hX]; exact wcell hl1 (j := 0) rfl
 clear ho1 hl1 hX
 go_wp2_with fail
 go_ret
 exact ⟨rfl, HO1.out⟩
theorem rl_count (w0 : World) (R : Thing) (g : Nat) (s : TkS) (t : ByteArray)  (hw : cutAt 32 t.data.toList = [wCount]) (hz : t.size ≤ 3000) (w : World) (ho : Own w0 [] w [rtT g s, R]) :
  Calls Tryz.prog 38 #[.pointer (some ⟨g, 0, none⟩), .string t] w fun e w' => e = .returned (.string ⟨(Lib.itoa ((s.L.length : Nat) : Int)).toArray⟩) ∧ Own w0 [] w' [rtT g s, R] := by
 have HO := Lib.hid ho
 have HW := Lib.hid hw
 clear ho hw
 go_enter Tryz.func38, Tryz.ntmps38
 go_wp2_with fail
 refine (rcut32 t HW.out rfl w0 w _ hz HO.out).mono ?_
 rintro e w1 ⟨q, cp, rfl, hl1, ho1⟩
 have HO1 := Lib.hid ho1
 have c0 : w1.cell? ⟨q, 0, none⟩ = some (.string ⟨#[99, 111, 117, 110, 116]⟩) := wcell hl1 (j := 0) rfl
 clear ho1 hl1
 obtain ⟨S, hS, -⟩ := HO1.out.at_ 0 rfl
 obtain ⟨g0, g1, ok, ho⟩ := rtT_open hS
 obtain ⟨S1, ⟨v, hv, -⟩, -⟩ := ho.at_ 0 rfl
 obtain ⟨Av, capv, hve, _, _, _⟩ := hv.ls.shape
 rw [List.length_map] at hve
 have cL : w1.cell? ⟨g, 2, none⟩ = some (.slice Av s.L.length capv) := by rw [← hve]; exact hv.bl.cell 2
 have lg := hv.bl.lt
 have hl40 := ok.1
 clear hS ho hv hve ok
 go_wp2_with fail
 refine wp_loop_rounds 1 ?_
 rw [rounds_succ]
 go_wp2_with fail
 refine (rdigits s.L.length _ (by omega)).mono ?_
 rintro e w7 ⟨rfl, hs7⟩
 go_wp2_with fail
 go_ret
 exact ⟨rfl, HO1.out.later hs7⟩
theorem rl_read_no1 (w0 : World) (R : Thing) (g : Nat) (s : TkS) (t : ByteArray) (a b : List UInt8) (hn1 : dgN a = none) (hw : cutAt 32 t.data.toList = [wRead, a, b]) (hz : t.size ≤ 3000) (w : World) (ho : Own w0 [] w [rtT g s, R]) :
  Calls Tryz.prog 38 #[.pointer (some ⟨g, 0, none⟩), .string t] w fun e w' => e = .returned (.string ⟨#[98, 97, 100]⟩) ∧ Own w0 [] w' [rtT g s, R] := by
 have HO := Lib.hid ho
 have HW := Lib.hid hw
 have HN1 := Lib.hid hn1
 clear hn1
 clear ho hw
 go_enter Tryz.func38, Tryz.ntmps38
 go_wp2_with fail
 refine (rcut32 t HW.out rfl w0 w _ hz HO.out).mono ?_
 rintro e w1 ⟨q, cp, rfl, hl1, ho1⟩
 have HO1 := Lib.hid ho1
 have c0 : w1.cell? ⟨q, 0, none⟩ = some (.string ⟨#[114, 101, 97, 100]⟩) := wcell hl1 (j := 0) rfl
 have c1 : w1.cell? ⟨q, 1, none⟩ = some (.string ⟨a.toArray⟩) := wcell hl1 (j := 1) rfl
 obtain ⟨A1, hA1⟩ : ∃ A : ByteArray, A = ⟨a.toArray⟩ := ⟨_, rfl⟩
 rw [← hA1] at c1
 have HNU1 := Lib.hid (numb_no hA1 HN1.out)
 clear ho1 hl1 hA1
 go_wp2_with fail
 refine wp_loop_rounds 1 ?_
 rw [rounds_succ]
 go_wp2_with fail
 refine (HNU1.out _).mono ?_
 rintro e w2 ⟨rfl, rfl⟩
 go_wp2_with fail
 go_ret
 exact ⟨rfl, HO1.out⟩
theorem rl_read_no2 (w0 : World) (R : Thing) (g : Nat) (s : TkS) (t : ByteArray) (a b : List UInt8) (n1 : Nat) (hn1 : dgN a = some n1) (hn2 : dgN b = none) (hw : cutAt 32 t.data.toList = [wRead, a, b]) (hz : t.size ≤ 3000) (w : World) (ho : Own w0 [] w [rtT g s, R]) :
  Calls Tryz.prog 38 #[.pointer (some ⟨g, 0, none⟩), .string t] w fun e w' => e = .returned (.string ⟨#[98, 97, 100]⟩) ∧ Own w0 [] w' [rtT g s, R] := by
 have HO := Lib.hid ho
 have HW := Lib.hid hw
 have HN1 := Lib.hid hn1
 have HN2 := Lib.hid hn2
 clear hn1 hn2
 clear ho hw
 go_enter Tryz.func38, Tryz.ntmps38
 go_wp2_with fail
 refine (rcut32 t HW.out rfl w0 w _ hz HO.out).mono ?_
 rintro e w1 ⟨q, cp, rfl, hl1, ho1⟩
 have HO1 := Lib.hid ho1
 have c0 : w1.cell? ⟨q, 0, none⟩ = some (.string ⟨#[114, 101, 97, 100]⟩) := wcell hl1 (j := 0) rfl
 have c1 : w1.cell? ⟨q, 1, none⟩ = some (.string ⟨a.toArray⟩) := wcell hl1 (j := 1) rfl
 obtain ⟨A1, hA1⟩ : ∃ A : ByteArray, A = ⟨a.toArray⟩ := ⟨_, rfl⟩
 rw [← hA1] at c1
 have c2 : w1.cell? ⟨q, 2, none⟩ = some (.string ⟨b.toArray⟩) := wcell hl1 (j := 2) rfl
 obtain ⟨A2, hA2⟩ : ∃ A : ByteArray, A = ⟨b.toArray⟩ := ⟨_, rfl⟩
 rw [← hA2] at c2
 have HNU1 := Lib.hid (numb_yes hA1 HN1.out)
 have HNU2 := Lib.hid (numb_no hA2 HN2.out)
 clear ho1 hl1 hA1 hA2
 go_wp2_with fail
 refine wp_loop_rounds 2 ?_
 rw [rounds_succ]
 go_wp2_with fail
 refine (HNU1.out _).mono ?_
 rintro e w2 ⟨rfl, rfl⟩
 go_wp2_with (at_builtin; refine wpList_push rfl _ _ 22 rfl 3 1 8 Tryz.elInt (.slice none 0 0) [] rfl (Lst.nil _ _ _) w2.heap.size 1 [.int .i64 n1] rfl rfl (intRow_one n1).2 (BlockIs.fresh _ _ _) (by decide) ?_; intro qn cn w5 hl5 ho5 hq5 hlt5)
 obtain ⟨hs5, hqn, -, -⟩ := rl_push1 HO1.out hl5 ho5 hq5
 have e0 := hs5.cell (World.block_lt_of_cell? _ _ c0) c0
 have e1 := hs5.cell (World.block_lt_of_cell? _ _ c1) c1
 have e2 := hs5.cell (World.block_lt_of_cell? _ _ c2) c2
 clear hl5 ho5 hq5 hqn
 rw [rounds_succ]
 go_wp2_with fail
 refine (HNU2.out _).mono ?_
 rintro e w6 ⟨rfl, rfl⟩
 go_wp2_with fail
 go_ret
 exact ⟨rfl, HO1.out.later hs5⟩
theorem rl_need_no1 (w0 : World) (R : Thing) (g : Nat) (s : TkS) (t : ByteArray) (a b : List UInt8) (hn1 : dgN a = none) (hw : cutAt 32 t.data.toList = [wNeed, a, b]) (hz : t.size ≤ 3000) (w : World) (ho : Own w0 [] w [rtT g s, R]) :
  Calls Tryz.prog 38 #[.pointer (some ⟨g, 0, none⟩), .string t] w fun e w' => e = .returned (.string ⟨#[98, 97, 100]⟩) ∧ Own w0 [] w' [rtT g s, R] := by
 have HO := Lib.hid ho
 have HW := Lib.hid hw
 have HN1 := Lib.hid hn1
 clear hn1
 clear ho hw
 go_enter Tryz.func38, Tryz.ntmps38
 go_wp2_with fail
 refine (rcut32 t HW.out rfl w0 w _ hz HO.out).mono ?_
 rintro e w1 ⟨q, cp, rfl, hl1, ho1⟩
 have HO1 := Lib.hid ho1
 have c0 : w1.cell? ⟨q, 0, none⟩ = some (.string ⟨#[110, 101, 101, 100]⟩) := wcell hl1 (j := 0) rfl
 have c1 : w1.cell? ⟨q, 1, none⟩ = some (.string ⟨a.toArray⟩) := wcell hl1 (j := 1) rfl
 obtain ⟨A1, hA1⟩ : ∃ A : ByteArray, A = ⟨a.toArray⟩ := ⟨_, rfl⟩
 rw [← hA1] at c1
 have HNU1 := Lib.hid (numb_no hA1 HN1.out)
 clear ho1 hl1 hA1
 go_wp2_with fail
 refine wp_loop_rounds 1 ?_
 rw [rounds_succ]
 go_wp2_with fail
 refine (HNU1.out _).mono ?_
 rintro e w2 ⟨rfl, rfl⟩
 go_wp2_with fail
 go_ret
 exact ⟨rfl, HO1.out⟩
theorem rl_need_no2 (w0 : World) (R : Thing) (g : Nat) (s : TkS) (t : ByteArray) (a b : List UInt8) (n1 : Nat) (hn1 : dgN a = some n1) (hn2 : dgN b = none) (hw : cutAt 32 t.data.toList = [wNeed, a, b]) (hz : t.size ≤ 3000) (w : World) (ho : Own w0 [] w [rtT g s, R]) :
  Calls Tryz.prog 38 #[.pointer (some ⟨g, 0, none⟩), .string t] w fun e w' => e = .returned (.string ⟨#[98, 97, 100]⟩) ∧ Own w0 [] w' [rtT g s, R] := by
 have HO := Lib.hid ho
 have HW := Lib.hid hw
 have HN1 := Lib.hid hn1
 have HN2 := Lib.hid hn2
 clear hn1 hn2
 clear ho hw
 go_enter Tryz.func38, Tryz.ntmps38
 go_wp2_with fail
 refine (rcut32 t HW.out rfl w0 w _ hz HO.out).mono ?_
 rintro e w1 ⟨q, cp, rfl, hl1, ho1⟩
 have HO1 := Lib.hid ho1
 have c0 : w1.cell? ⟨q, 0, none⟩ = some (.string ⟨#[110, 101, 101, 100]⟩) := wcell hl1 (j := 0) rfl
 have c1 : w1.cell? ⟨q, 1, none⟩ = some (.string ⟨a.toArray⟩) := wcell hl1 (j := 1) rfl
 obtain ⟨A1, hA1⟩ : ∃ A : ByteArray, A = ⟨a.toArray⟩ := ⟨_, rfl⟩
 rw [← hA1] at c1
 have c2 : w1.cell? ⟨q, 2, none⟩ = some (.string ⟨b.toArray⟩) := wcell hl1 (j := 2) rfl
 obtain ⟨A2, hA2⟩ : ∃ A : ByteArray, A = ⟨b.toArray⟩ := ⟨_, rfl⟩
 rw [← hA2] at c2
 have HNU1 := Lib.hid (numb_yes hA1 HN1.out)
 have HNU2 := Lib.hid (numb_no hA2 HN2.out)
 clear ho1 hl1 hA1 hA2
 go_wp2_with fail
 refine wp_loop_rounds 2 ?_
 rw [rounds_succ]
 go_wp2_with fail
 refine (HNU1.out _).mono ?_
 rintro e w2 ⟨rfl, rfl⟩
 go_wp2_with (at_builtin; refine wpList_push rfl _ _ 22 rfl 3 1 8 Tryz.elInt (.slice none 0 0) [] rfl (Lst.nil _ _ _) w2.heap.size 1 [.int .i64 n1] rfl rfl (intRow_one n1).2 (BlockIs.fresh _ _ _) (by decide) ?_; intro qn cn w5 hl5 ho5 hq5 hlt5)
 obtain ⟨hs5, hqn, -, -⟩ := rl_push1 HO1.out hl5 ho5 hq5
 have e0 := hs5.cell (World.block_lt_of_cell? _ _ c0) c0
 have e1 := hs5.cell (World.block_lt_of_cell? _ _ c1) c1
 have e2 := hs5.cell (World.block_lt_of_cell? _ _ c2) c2
 clear hl5 ho5 hq5 hqn
 rw [rounds_succ]
 go_wp2_with fail
 refine (HNU2.out _).mono ?_
 rintro e w6 ⟨rfl, rfl⟩
 go_wp2_with fail
 go_ret
 exact ⟨rfl, HO1.out.later hs5⟩
theorem rl_varint1 (w0 : World) (R : Thing) (g : Nat) (s : TkS) (t : ByteArray) (a : List UInt8) (n1 : Nat) (hn1 : dgN a = some n1) (b : UInt8) (hv : vbytes (n1 : Int) = [b]) (hw : cutAt 32 t.data.toList = [wVarint, a]) (hz : t.size ≤ 3000) (w : World) (ho : Own w0 [] w [rtT g s, R]) :
  Calls Tryz.prog 38 #[.pointer (some ⟨g, 0, none⟩), .string t] w fun e w' => e = .returned (.string ⟨(Lib.itoa ((b.toNat : Nat) : Int)).toArray⟩) ∧ Own w0 [] w' [rtT g s, R] := by
 have HO := Lib.hid ho
 have HW := Lib.hid hw
 have HN1 := Lib.hid hn1
 have hn9 := (dg_yes hn1).2.2.2.2
 have HVB := Lib.hid hv
 clear hn1 hv
 clear ho hw
 go_enter Tryz.func38, Tryz.ntmps38
 go_wp2_with fail
 refine (rcut32 t HW.out rfl w0 w _ hz HO.out).mono ?_
 rintro e w1 ⟨q, cp, rfl, hl1, ho1⟩
 have HO1 := Lib.hid ho1
 have c0 : w1.cell? ⟨q, 0, none⟩ = some (.string ⟨#[118, 97, 114, 105, 110, 116]⟩) := wcell hl1 (j := 0) rfl
 have c1 : w1.cell? ⟨q, 1, none⟩ = some (.string ⟨a.toArray⟩) := wcell hl1 (j := 1) rfl
 obtain ⟨A1, hA1⟩ : ∃ A : ByteArray, A = ⟨a.toArray⟩ := ⟨_, rfl⟩
 rw [← hA1] at c1
 have HNU1 := Lib.hid (numb_yes hA1 HN1.out)
 clear ho1 hl1 hA1
 go_wp2_with fail
 refine wp_loop_rounds 2 ?_
 rw [rounds_succ]
 go_wp2_with fail
 refine (HNU1.out _).mono ?_
 rintro e w2 ⟨rfl, rfl⟩
 go_wp2_with (at_builtin; refine wpList_push rfl _ _ 22 rfl 3 1 8 Tryz.elInt (.slice none 0 0) [] rfl (Lst.nil _ _ _) w2.heap.size 1 [.int .i64 n1] rfl rfl (intRow_one n1).2 (BlockIs.fresh _ _ _) (by decide) ?_; intro qn cn w5 hl5 ho5 hq5 hlt5)
 obtain ⟨hs5, hqn, hO5, d0⟩ := rl_push1 HO1.out hl5 ho5 hq5
 have HO5 := Lib.hid hO5
 have e0 := hs5.cell (World.block_lt_of_cell? _ _ c0) c0
 have e1 := hs5.cell (World.block_lt_of_cell? _ _ c1) c1
 clear hl5 ho5 hq5 hqn hO5
 rw [rounds_succ]
 have HV : Hid (∀ W, Calls Tryz.prog 83 #[.int .i64 (n1 : Int)] W fun e w' => e = .returned (.string ⟨#[b]⟩) ∧ Below W.heap.size W w') := Lib.hid (fun W => by
  have h := rbytes_any (n1 : Int) (by omega) (by omega) W
  rw [HVB.out] at h
  exact h)
 go_wp2_with fail
 refine (HV.out _).mono ?_
 rintro e w6 ⟨rfl, hb6⟩
 have hs6 : Since w5 w6 := hb6
 clear hb6
 go_wp2_with fail
 refine wp_loop_rounds 2 ?_
 rw [rounds_succ]
 go_wp2_with fail
 rw [byte_at10]
 refine (rdigits b.toNat _ (by have := b.toNat_lt; omega)).mono ?_
 rintro e w7 ⟨rfl, hs7⟩
 have z1 := dig_size b
 obtain ⟨X1, hX1⟩ : ∃ X : ByteArray, (⟨(Lib.itoa ((b.toNat : Nat) : Int)).toArray⟩ : ByteArray) = X := ⟨_, rfl⟩
 rw [hX1] at z1 ⊢
 have HX1 := Lib.hid hX1
 clear hX1
 go_wp2_with fail
 rw [rounds_succ]
 go_wp2_with fail
 go_ret
 exact ⟨by rw [HX1.out, nil_app]; rfl, HO1.out.later ((hs5.trans2 hs6).trans2 hs7)⟩
theorem rl_varint2 (w0 : World) (R : Thing) (g : Nat) (s : TkS) (t : ByteArray) (a : List UInt8) (n1 : Nat) (hn1 : dgN a = some n1) (b c : UInt8) (hv : vbytes (n1 : Int) = [b, c]) (hw : cutAt 32 t.data.toList = [wVarint, a]) (hz : t.size ≤ 3000) (w : World) (ho : Own w0 [] w [rtT g s, R]) :
  Calls Tryz.prog 38 #[.pointer (some ⟨g, 0, none⟩), .string t] w fun e w' => e = .returned (.string (⟨(Lib.itoa ((b.toNat : Nat) : Int)).toArray⟩ ++ ⟨#[32]⟩ ++ ⟨(Lib.itoa ((c.toNat : Nat) : Int)).toArray⟩)) ∧ Own w0 [] w' [rtT g s, R] := by
 have HO := Lib.hid ho
 have HW := Lib.hid hw
 have HN1 := Lib.hid hn1
 have hn9 := (dg_yes hn1).2.2.2.2
 have HVB := Lib.hid hv
 clear hn1 hv
 clear ho hw
 go_enter Tryz.func38, Tryz.ntmps38
 go_wp2_with fail
 refine (rcut32 t HW.out rfl w0 w _ hz HO.out).mono ?_
 rintro e w1 ⟨q, cp, rfl, hl1, ho1⟩
 have HO1 := Lib.hid ho1
 have c0 : w1.cell? ⟨q, 0, none⟩ = some (.string ⟨#[118, 97, 114, 105, 110, 116]⟩) := wcell hl1 (j := 0) rfl
 have c1 : w1.cell? ⟨q, 1, none⟩ = some (.string ⟨a.toArray⟩) := wcell hl1 (j := 1) rfl
 obtain ⟨A1, hA1⟩ : ∃ A : ByteArray, A = ⟨a.toArray⟩ := ⟨_, rfl⟩
 rw [← hA1] at c1
 have HNU1 := Lib.hid (numb_yes hA1 HN1.out)
 clear ho1 hl1 hA1
 go_wp2_with fail
 refine wp_loop_rounds 2 ?_
 rw [rounds_succ]
 go_wp2_with fail
 refine (HNU1.out _).mono ?_
 rintro e w2 ⟨rfl, rfl⟩
 go_wp2_with (at_builtin; refine wpList_push rfl _ _ 22 rfl 3 1 8 Tryz.elInt (.slice none 0 0) [] rfl (Lst.nil _ _ _) w2.heap.size 1 [.int .i64 n1] rfl rfl (intRow_one n1).2 (BlockIs.fresh _ _ _) (by decide) ?_; intro qn cn w5 hl5 ho5 hq5 hlt5)
 obtain ⟨hs5, hqn, hO5, d0⟩ := rl_push1 HO1.out hl5 ho5 hq5
 have HO5 := Lib.hid hO5
 have e0 := hs5.cell (World.block_lt_of_cell? _ _ c0) c0
 have e1 := hs5.cell (World.block_lt_of_cell? _ _ c1) c1
 clear hl5 ho5 hq5 hqn hO5
 rw [rounds_succ]
 have HV : Hid (∀ W, Calls Tryz.prog 83 #[.int .i64 (n1 : Int)] W fun e w' => e = .returned (.string ⟨#[b, c]⟩) ∧ Below W.heap.size W w') := Lib.hid (fun W => by
  have h := rbytes_any (n1 : Int) (by omega) (by omega) W
  rw [HVB.out] at h
  exact h)
 go_wp2_with fail
 refine (HV.out _).mono ?_
 rintro e w6 ⟨rfl, hb6⟩
 have hs6 : Since w5 w6 := hb6
 clear hb6
 go_wp2_with fail
 refine wp_loop_rounds 3 ?_
 rw [rounds_succ]
 go_wp2_with fail
 rw [byte_at20]
 refine (rdigits b.toNat _ (by have := b.toNat_lt; omega)).mono ?_
 rintro e w7 ⟨rfl, hs7⟩
 have z1 := dig_size b
 have z2 := dig_size c
 have HDc := Lib.hid (fun W => rdigits c.toNat W (by have := c.toNat_lt; omega))
 obtain ⟨X1, hX1⟩ : ∃ X : ByteArray, (⟨(Lib.itoa ((b.toNat : Nat) : Int)).toArray⟩ : ByteArray) = X := ⟨_, rfl⟩
 obtain ⟨X2, hX2⟩ : ∃ X : ByteArray, (⟨(Lib.itoa ((c.toNat : Nat) : Int)).toArray⟩ : ByteArray) = X := ⟨_, rfl⟩
 rw [hX1] at z1 ⊢
 rw [hX2] at z2 HDc
 have HX1 := Lib.hid hX1
 have HX2 := Lib.hid hX2
 clear hX1 hX2
 have z3 : (X1 ++ (⟨#[32]⟩ : ByteArray)).size ≤ 61 := by rw [ByteArray.size_append]; have : (⟨#[32]⟩ : ByteArray).size = 1 := rfl; omega
 go_wp2_with fail
 rw [rounds_succ]
 go_wp2_with fail
 rw [byte_at21]
 refine (HDc.out _).mono ?_
 rintro e w8 ⟨rfl, hs8⟩
 go_wp2_with fail
 rw [rounds_succ]
 go_wp2_with fail
 go_ret
 exact ⟨by rw [HX1.out, HX2.out, nil_app]; rfl, HO1.out.later (((hs5.trans2 hs6).trans2 hs7).trans2 hs8)⟩
theorem rl_read_big (w0 : World) (R : Thing) (g : Nat) (s : TkS) (t : ByteArray) (a b : List UInt8) (n1 n2 : Nat) (hn1 : dgN a = some n1) (hn2 : dgN b = some n2) (hg : 1 < n1) (hw : cutAt 32 t.data.toList = [wRead, a, b]) (hz : t.size ≤ 3000) (w : World) (ho : Own w0 [] w [rtT g s, R]) :
  Calls Tryz.prog 38 #[.pointer (some ⟨g, 0, none⟩), .string t] w fun e w' => e = .returned (.string (eName 1)) ∧ Own w0 [] w' [rtT g s, R] := by
 have HO := Lib.hid ho
 have HW := Lib.hid hw
 have HN1 := Lib.hid hn1
 have HN2 := Lib.hid hn2
 clear hn1 hn2
 have hgI : (1 : Int) < (n1 : Int) := by omega
 clear ho hw
 go_enter Tryz.func38, Tryz.ntmps38
 go_wp2_with fail
 refine (rcut32 t HW.out rfl w0 w _ hz HO.out).mono ?_
 rintro e w1 ⟨q, cp, rfl, hl1, ho1⟩
 have HO1 := Lib.hid ho1
 have c0 : w1.cell? ⟨q, 0, none⟩ = some (.string ⟨#[114, 101, 97, 100]⟩) := wcell hl1 (j := 0) rfl
 have c1 : w1.cell? ⟨q, 1, none⟩ = some (.string ⟨a.toArray⟩) := wcell hl1 (j := 1) rfl
 obtain ⟨A1, hA1⟩ : ∃ A : ByteArray, A = ⟨a.toArray⟩ := ⟨_, rfl⟩
 rw [← hA1] at c1
 have c2 : w1.cell? ⟨q, 2, none⟩ = some (.string ⟨b.toArray⟩) := wcell hl1 (j := 2) rfl
 obtain ⟨A2, hA2⟩ : ∃ A : ByteArray, A = ⟨b.toArray⟩ := ⟨_, rfl⟩
 rw [← hA2] at c2
 have HNU1 := Lib.hid (numb_yes hA1 HN1.out)
 have HNU2 := Lib.hid (numb_yes hA2 HN2.out)
 clear ho1 hl1 hA1 hA2
 go_wp2_with fail
 refine wp_loop_rounds 3 ?_
 rw [rounds_succ]
 go_wp2_with fail
 refine (HNU1.out _).mono ?_
 rintro e w2 ⟨rfl, rfl⟩
 go_wp2_with (at_builtin; refine wpList_push rfl _ _ 22 rfl 3 1 8 Tryz.elInt (.slice none 0 0) [] rfl (Lst.nil _ _ _) w2.heap.size 1 [.int .i64 n1] rfl rfl (intRow_one n1).2 (BlockIs.fresh _ _ _) (by decide) ?_; intro qn cn w5 hl5 ho5 hq5 hlt5)
 obtain ⟨hs5, hqn, -, -⟩ := rl_push1 HO1.out hl5 ho5 hq5
 have e0 := hs5.cell (World.block_lt_of_cell? _ _ c0) c0
 have e1 := hs5.cell (World.block_lt_of_cell? _ _ c1) c1
 have e2 := hs5.cell (World.block_lt_of_cell? _ _ c2) c2
 rw [rounds_succ]
 go_wp2_with fail
 refine (HNU2.out _).mono ?_
 rintro e w6 ⟨rfl, rfl⟩
 have HL5 := Lib.hid hl5
 clear hl5
 go_wp2_with (at_builtin; refine wpList_push rfl _ _ 22 rfl 3 1 8 Tryz.elInt (.slice (some ⟨qn, 0, none⟩) 1 cn) [intRow n1] rfl (HL5.out.alloc _) w6.heap.size 1 [.int .i64 n2] rfl rfl (intRow_one n2).2 (BlockIs.fresh _ _ _) (by show 1 + 1 ≤ 1000000; decide) ?_; intro qm cm w7 hl7 ho7 hq7 hlt7)
 obtain ⟨hs7, hO7, d0, d1⟩ := rl_push2 HO1.out hs5 hqn hl7 ho7 hq7
 have HO7 := Lib.hid hO7
 have f0 := hs7.cell (World.block_lt_of_cell? _ _ c0) c0
 have f1 := hs7.cell (World.block_lt_of_cell? _ _ c1) c1
 have f2 := hs7.cell (World.block_lt_of_cell? _ _ c2) c2
 clear hl7 ho7 hq7 hqn hO7 ho5 hq5
 rw [rounds_succ]
 go_wp2_with fail
 refine (rname 1 (by decide) (by decide) _).mono ?_
 rintro e w8 ⟨rfl, hs8⟩
 go_wp2_with fail
 go_ret
 exact ⟨rfl, (HO7.out.later hs8).take 2⟩
theorem rl_read0 (w0 : World) (R : Thing) (g : Nat) (s : TkS) (t : ByteArray) (a b : List UInt8) (n2 : Nat) (hn1 : dgN a = some 0) (hn2 : dgN b = some n2) (hw : cutAt 32 t.data.toList = [wRead, a, b]) (hz : t.size ≤ 3000) (w : World) (ho : Own w0 [] w [rtT g s, R]) :
  Calls Tryz.prog 38 #[.pointer (some ⟨g, 0, none⟩), .string t] w fun e w' => e = .returned (.string (if s.e0.readS n2 = ⟨#[]⟩ then bDash else s.e0.readS n2)) ∧ Own w0 [] w' [rtT g { s with e0 := s.e0.read n2 }, R] := by
 have HO := Lib.hid ho
 have HW := Lib.hid hw
 obtain ⟨n1, hk1⟩ : ∃ n1 : Nat, n1 = 0 := ⟨_, rfl⟩
 rw [← hk1] at hn1
 have HK1 := Lib.hid hk1
 obtain ⟨X, hX⟩ : ∃ X, s.e0.readS (n2 : Int) = X := ⟨_, rfl⟩
 rw [hX]
 have HX := Lib.hid hX
 clear hk1 hX
 have HN1 := Lib.hid hn1
 have HN2 := Lib.hid hn2
 clear hn1 hn2
 clear ho hw
 go_enter Tryz.func38, Tryz.ntmps38
 go_wp2_with fail
 refine (rcut32 t HW.out rfl w0 w _ hz HO.out).mono ?_
 rintro e w1 ⟨q, cp, rfl, hl1, ho1⟩
 have HO1 := Lib.hid ho1
 have c0 : w1.cell? ⟨q, 0, none⟩ = some (.string ⟨#[114, 101, 97, 100]⟩) := wcell hl1 (j := 0) rfl
 have c1 : w1.cell? ⟨q, 1, none⟩ = some (.string ⟨a.toArray⟩) := wcell hl1 (j := 1) rfl
 obtain ⟨A1, hA1⟩ : ∃ A : ByteArray, A = ⟨a.toArray⟩ := ⟨_, rfl⟩
 rw [← hA1] at c1
 have c2 : w1.cell? ⟨q, 2, none⟩ = some (.string ⟨b.toArray⟩) := wcell hl1 (j := 2) rfl
 obtain ⟨A2, hA2⟩ : ∃ A : ByteArray, A = ⟨b.toArray⟩ := ⟨_, rfl⟩
 rw [← hA2] at c2
 have HNU1 := Lib.hid (numb_yes hA1 HN1.out)
 have HNU2 := Lib.hid (numb_yes hA2 HN2.out)
 clear ho1 hl1 hA1 hA2
 go_wp2_with fail
 refine wp_loop_rounds 3 ?_
 rw [rounds_succ]
 go_wp2_with fail
 refine (HNU1.out _).mono ?_
 rintro e w2 ⟨rfl, rfl⟩
 go_wp2_with (at_builtin; refine wpList_push rfl _ _ 22 rfl 3 1 8 Tryz.elInt (.slice none 0 0) [] rfl (Lst.nil _ _ _) w2.heap.size 1 [.int .i64 n1] rfl rfl (intRow_one n1).2 (BlockIs.fresh _ _ _) (by decide) ?_; intro qn cn w5 hl5 ho5 hq5 hlt5)
 obtain ⟨hs5, hqn, -, -⟩ := rl_push1 HO1.out hl5 ho5 hq5
 have e0 := hs5.cell (World.block_lt_of_cell? _ _ c0) c0
 have e1 := hs5.cell (World.block_lt_of_cell? _ _ c1) c1
 have e2 := hs5.cell (World.block_lt_of_cell? _ _ c2) c2
 rw [rounds_succ]
 go_wp2_with fail
 refine (HNU2.out _).mono ?_
 rintro e w6 ⟨rfl, rfl⟩
 have HL5 := Lib.hid hl5
 clear hl5
 go_wp2_with (at_builtin; refine wpList_push rfl _ _ 22 rfl 3 1 8 Tryz.elInt (.slice (some ⟨qn, 0, none⟩) 1 cn) [intRow n1] rfl (HL5.out.alloc _) w6.heap.size 1 [.int .i64 n2] rfl rfl (intRow_one n2).2 (BlockIs.fresh _ _ _) (by show 1 + 1 ≤ 1000000; decide) ?_; intro qm cm w7 hl7 ho7 hq7 hlt7)
 obtain ⟨hs7, hO7, d0, d1⟩ := rl_push2 HO1.out hs5 hqn hl7 ho7 hq7
 have HO7 := Lib.hid hO7
 have f0 := hs7.cell (World.block_lt_of_cell? _ _ c0) c0
 have f1 := hs7.cell (World.block_lt_of_cell? _ _ c1) c1
 have f2 := hs7.cell (World.block_lt_of_cell? _ _ c2) c2
 clear hl7 ho7 hq7 hqn hO7 ho5 hq5
 rw [rounds_succ]
 have hk1 := HK1.out
 subst hk1
 obtain ⟨S, hS, -⟩ := HO7.out.at_ 0 rfl
 obtain ⟨ge, ce, -, -⟩ := rl_cell0 hS
 have lg : g < w7.heap.size := World.block_lt_of_cell? w7 _ ce
 have HRD := Lib.hid (fun W h hc => rl_rd0 w0 g s (n2 : Int) ge R (Thing.lst 3 1 (.slice (some ⟨qm, 0, none⟩) 2 cm) ([((0 : Nat) : Int), (n2 : Int)].map intRow)) W h hc)
 have hre : EnS.readE (n2 : Int) = 0 := by unfold EnS.readE; rw [if_neg (by omega)]
 rw [hre, HX.out] at HRD
 have C1 := Lib.hid (⟨d0, d1, ce⟩ : w7.cell? ⟨qm, 0, none⟩ = some (.int .i64 0) ∧ w7.cell? ⟨qm, 1, none⟩ = some (.int .i64 n2) ∧ w7.cell? ⟨g, 0, none⟩ = some (.pointer (some ⟨ge, 0, none⟩)))
 clear hS hre
 go_wp2_with fail
 go_region_held3 (fun w' => w'.cell? ⟨qm, 0, none⟩ = some (.int .i64 0) ∧ w'.cell? ⟨qm, 1, none⟩ = some (.int .i64 n2) ∧ w'.cell? ⟨g, 0, none⟩ = some (.pointer (some ⟨ge, 0, none⟩))) (first | exact C1.out | exact cq1.out) ((go_at_call 13; refine (HRD.out _ ?_ ?_).mono ?_; (first | exact HO7.out | exact HO7.out.drew); (exact C1.out.2.2); rintro e w8 ⟨rfl, ha, hca⟩; have HO8 := Lib.hid ha; have cq1 : Hid (w8.cell? ⟨qm, 0, none⟩ = some (.int .i64 0) ∧ w8.cell? ⟨qm, 1, none⟩ = some (.int .i64 n2) ∧ w8.cell? ⟨g, 0, none⟩ = some (.pointer (some ⟨ge, 0, none⟩))) := Lib.hid ⟨icell (es := [((0 : Nat) : Int), (n2 : Int)]) (ha.ls 2 rfl) (j := 0) rfl, icell (es := [((0 : Nat) : Int), (n2 : Int)]) (ha.ls 2 rfl) (j := 1) rfl, hca⟩; clear ha hca))
 all_goals
  clear HRD C1 cq1 d0 d1 ce lg
  by_cases hx : X = ⟨#[]⟩
  · subst hx
    go_wp2_with fail
    go_ret
    exact ⟨rfl, HO8.out.take 2⟩
  · have hx2 := not_empty hx
    have HN := Lib.hid hx
    clear hx
    go_wp2_with fail
    go_ret
    exact ⟨by first | rfl | (rw [if_neg HN.out]; rfl), HO8.out.take 2⟩
theorem rl_read1 (w0 : World) (R : Thing) (g : Nat) (s : TkS) (t : ByteArray) (a b : List UInt8) (n2 : Nat) (hn1 : dgN a = some 1) (hn2 : dgN b = some n2) (hw : cutAt 32 t.data.toList = [wRead, a, b]) (hz : t.size ≤ 3000) (w : World) (ho : Own w0 [] w [rtT g s, R]) :
  Calls Tryz.prog 38 #[.pointer (some ⟨g, 0, none⟩), .string t] w fun e w' => e = .returned (.string (if s.e1.readS n2 = ⟨#[]⟩ then bDash else s.e1.readS n2)) ∧ Own w0 [] w' [rtT g { s with e1 := s.e1.read n2 }, R] := by
 have HO := Lib.hid ho
 have HW := Lib.hid hw
 obtain ⟨n1, hk1⟩ : ∃ n1 : Nat, n1 = 1 := ⟨_, rfl⟩
 rw [← hk1] at hn1
 have HK1 := Lib.hid hk1
 obtain ⟨X, hX⟩ : ∃ X, s.e1.readS (n2 : Int) = X := ⟨_, rfl⟩
 rw [hX]
 have HX := Lib.hid hX
 clear hk1 hX
 have HN1 := Lib.hid hn1
 have HN2 := Lib.hid hn2
 clear hn1 hn2
 clear ho hw
 go_enter Tryz.func38, Tryz.ntmps38
 go_wp2_with fail
 refine (rcut32 t HW.out rfl w0 w _ hz HO.out).mono ?_
 rintro e w1 ⟨q, cp, rfl, hl1, ho1⟩
 have HO1 := Lib.hid ho1
 have c0 : w1.cell? ⟨q, 0, none⟩ = some (.string ⟨#[114, 101, 97, 100]⟩) := wcell hl1 (j := 0) rfl
 have c1 : w1.cell? ⟨q, 1, none⟩ = some (.string ⟨a.toArray⟩) := wcell hl1 (j := 1) rfl
 obtain ⟨A1, hA1⟩ : ∃ A : ByteArray, A = ⟨a.toArray⟩ := ⟨_, rfl⟩
 rw [← hA1] at c1
 have c2 : w1.cell? ⟨q, 2, none⟩ = some (.string ⟨b.toArray⟩) := wcell hl1 (j := 2) rfl
 obtain ⟨A2, hA2⟩ : ∃ A : ByteArray, A = ⟨b.toArray⟩ := ⟨_, rfl⟩
 rw [← hA2] at c2
 have HNU1 := Lib.hid (numb_yes hA1 HN1.out)
 have HNU2 := Lib.hid (numb_yes hA2 HN2.out)
 clear ho1 hl1 hA1 hA2
 go_wp2_with fail
 refine wp_loop_rounds 3 ?_
 rw [rounds_succ]
 go_wp2_with fail
 refine (HNU1.out _).mono ?_
 rintro e w2 ⟨rfl, rfl⟩
 go_wp2_with (at_builtin; refine wpList_push rfl _ _ 22 rfl 3 1 8 Tryz.elInt (.slice none 0 0) [] rfl (Lst.nil _ _ _) w2.heap.size 1 [.int .i64 n1] rfl rfl (intRow_one n1).2 (BlockIs.fresh _ _ _) (by decide) ?_; intro qn cn w5 hl5 ho5 hq5 hlt5)
 obtain ⟨hs5, hqn, -, -⟩ := rl_push1 HO1.out hl5 ho5 hq5
 have e0 := hs5.cell (World.block_lt_of_cell? _ _ c0) c0
 have e1 := hs5.cell (World.block_lt_of_cell? _ _ c1) c1
 have e2 := hs5.cell (World.block_lt_of_cell? _ _ c2) c2
 rw [rounds_succ]
 go_wp2_with fail
 refine (HNU2.out _).mono ?_
 rintro e w6 ⟨rfl, rfl⟩
 have HL5 := Lib.hid hl5
 clear hl5
 go_wp2_with (at_builtin; refine wpList_push rfl _ _ 22 rfl 3 1 8 Tryz.elInt (.slice (some ⟨qn, 0, none⟩) 1 cn) [intRow n1] rfl (HL5.out.alloc _) w6.heap.size 1 [.int .i64 n2] rfl rfl (intRow_one n2).2 (BlockIs.fresh _ _ _) (by show 1 + 1 ≤ 1000000; decide) ?_; intro qm cm w7 hl7 ho7 hq7 hlt7)
 obtain ⟨hs7, hO7, d0, d1⟩ := rl_push2 HO1.out hs5 hqn hl7 ho7 hq7
 have HO7 := Lib.hid hO7
 have f0 := hs7.cell (World.block_lt_of_cell? _ _ c0) c0
 have f1 := hs7.cell (World.block_lt_of_cell? _ _ c1) c1
 have f2 := hs7.cell (World.block_lt_of_cell? _ _ c2) c2
 clear hl7 ho7 hq7 hqn hO7 ho5 hq5
 rw [rounds_succ]
 have hk1 := HK1.out
 subst hk1
 obtain ⟨S, hS, -⟩ := HO7.out.at_ 0 rfl
 obtain ⟨ge, ce, -, -⟩ := rl_cell1 hS
 have lg : g < w7.heap.size := World.block_lt_of_cell? w7 _ ce
 have HRD := Lib.hid (fun W h hc => rl_rd1 w0 g s (n2 : Int) ge R (Thing.lst 3 1 (.slice (some ⟨qm, 0, none⟩) 2 cm) ([((1 : Nat) : Int), (n2 : Int)].map intRow)) W h hc)
 have hre : EnS.readE (n2 : Int) = 0 := by unfold EnS.readE; rw [if_neg (by omega)]
 rw [hre, HX.out] at HRD
 have C1 := Lib.hid (⟨d0, d1, ce⟩ : w7.cell? ⟨qm, 0, none⟩ = some (.int .i64 1) ∧ w7.cell? ⟨qm, 1, none⟩ = some (.int .i64 n2) ∧ w7.cell? ⟨g, 1, none⟩ = some (.pointer (some ⟨ge, 0, none⟩)))
 clear hS hre
 go_wp2_with fail
 go_region_held3 (fun w' => w'.cell? ⟨qm, 0, none⟩ = some (.int .i64 1) ∧ w'.cell? ⟨qm, 1, none⟩ = some (.int .i64 n2) ∧ w'.cell? ⟨g, 1, none⟩ = some (.pointer (some ⟨ge, 0, none⟩))) (first | exact C1.out | exact cq1.out) ((go_at_call 13; refine (HRD.out _ ?_ ?_).mono ?_; (first | exact HO7.out | exact HO7.out.drew); (exact C1.out.2.2); rintro e w8 ⟨rfl, ha, hca⟩; have HO8 := Lib.hid ha; have cq1 : Hid (w8.cell? ⟨qm, 0, none⟩ = some (.int .i64 1) ∧ w8.cell? ⟨qm, 1, none⟩ = some (.int .i64 n2) ∧ w8.cell? ⟨g, 1, none⟩ = some (.pointer (some ⟨ge, 0, none⟩))) := Lib.hid ⟨icell (es := [((1 : Nat) : Int), (n2 : Int)]) (ha.ls 2 rfl) (j := 0) rfl, icell (es := [((1 : Nat) : Int), (n2 : Int)]) (ha.ls 2 rfl) (j := 1) rfl, hca⟩; clear ha hca))
 all_goals
  clear HRD C1 cq1 d0 d1 ce lg
  by_cases hx : X = ⟨#[]⟩
  · subst hx
    go_wp2_with fail
    go_ret
    exact ⟨rfl, HO8.out.take 2⟩
  · have hx2 := not_empty hx
    have HN := Lib.hid hx
    clear hx
    go_wp2_with fail
    go_ret
    exact ⟨by first | rfl | (rw [if_neg HN.out]; rfl), HO8.out.take 2⟩
theorem rl_need_big (w0 : World) (R : Thing) (g : Nat) (s : TkS) (t : ByteArray) (a b : List UInt8) (n1 n2 : Nat) (hn1 : dgN a = some n1) (hn2 : dgN b = some n2) (hg : n1 ≤ n2) (hw : cutAt 32 t.data.toList = [wNeed, a, b]) (hz : t.size ≤ 3000) (w : World) (ho : Own w0 [] w [rtT g s, R]) :
  Calls Tryz.prog 38 #[.pointer (some ⟨g, 0, none⟩), .string t] w fun e w' => e = .returned (.string (eName 1)) ∧ Own w0 [] w' [rtT g s, R] := by
 have HO := Lib.hid ho
 have HW := Lib.hid hw
 have HN1 := Lib.hid hn1
 have HN2 := Lib.hid hn2
 clear hn1 hn2
 have hgI : (n1 : Int) ≤ (n2 : Int) := by omega
 clear ho hw
 go_enter Tryz.func38, Tryz.ntmps38
 go_wp2_with fail
 refine (rcut32 t HW.out rfl w0 w _ hz HO.out).mono ?_
 rintro e w1 ⟨q, cp, rfl, hl1, ho1⟩
 have HO1 := Lib.hid ho1
 have c0 : w1.cell? ⟨q, 0, none⟩ = some (.string ⟨#[110, 101, 101, 100]⟩) := wcell hl1 (j := 0) rfl
 have c1 : w1.cell? ⟨q, 1, none⟩ = some (.string ⟨a.toArray⟩) := wcell hl1 (j := 1) rfl
 obtain ⟨A1, hA1⟩ : ∃ A : ByteArray, A = ⟨a.toArray⟩ := ⟨_, rfl⟩
 rw [← hA1] at c1
 have c2 : w1.cell? ⟨q, 2, none⟩ = some (.string ⟨b.toArray⟩) := wcell hl1 (j := 2) rfl
 obtain ⟨A2, hA2⟩ : ∃ A : ByteArray, A = ⟨b.toArray⟩ := ⟨_, rfl⟩
 rw [← hA2] at c2
 have HNU1 := Lib.hid (numb_yes hA1 HN1.out)
 have HNU2 := Lib.hid (numb_yes hA2 HN2.out)
 clear ho1 hl1 hA1 hA2
 go_wp2_with fail
 refine wp_loop_rounds 3 ?_
 rw [rounds_succ]
 go_wp2_with fail
 refine (HNU1.out _).mono ?_
 rintro e w2 ⟨rfl, rfl⟩
 go_wp2_with (at_builtin; refine wpList_push rfl _ _ 22 rfl 3 1 8 Tryz.elInt (.slice none 0 0) [] rfl (Lst.nil _ _ _) w2.heap.size 1 [.int .i64 n1] rfl rfl (intRow_one n1).2 (BlockIs.fresh _ _ _) (by decide) ?_; intro qn cn w5 hl5 ho5 hq5 hlt5)
 obtain ⟨hs5, hqn, -, -⟩ := rl_push1 HO1.out hl5 ho5 hq5
 have e0 := hs5.cell (World.block_lt_of_cell? _ _ c0) c0
 have e1 := hs5.cell (World.block_lt_of_cell? _ _ c1) c1
 have e2 := hs5.cell (World.block_lt_of_cell? _ _ c2) c2
 rw [rounds_succ]
 go_wp2_with fail
 refine (HNU2.out _).mono ?_
 rintro e w6 ⟨rfl, rfl⟩
 have HL5 := Lib.hid hl5
 clear hl5
 go_wp2_with (at_builtin; refine wpList_push rfl _ _ 22 rfl 3 1 8 Tryz.elInt (.slice (some ⟨qn, 0, none⟩) 1 cn) [intRow n1] rfl (HL5.out.alloc _) w6.heap.size 1 [.int .i64 n2] rfl rfl (intRow_one n2).2 (BlockIs.fresh _ _ _) (by show 1 + 1 ≤ 1000000; decide) ?_; intro qm cm w7 hl7 ho7 hq7 hlt7)
 obtain ⟨hs7, hO7, d0, d1⟩ := rl_push2 HO1.out hs5 hqn hl7 ho7 hq7
 have HO7 := Lib.hid hO7
 have f0 := hs7.cell (World.block_lt_of_cell? _ _ c0) c0
 have f1 := hs7.cell (World.block_lt_of_cell? _ _ c1) c1
 have f2 := hs7.cell (World.block_lt_of_cell? _ _ c2) c2
 clear hl7 ho7 hq7 hqn hO7 ho5 hq5
 rw [rounds_succ]
 go_wp2_with fail
 go_quiet (fail)
 go_wp2_with fail
 refine (rname 1 (by decide) (by decide) _).mono ?_
 rintro e w8 ⟨rfl, hs8⟩
 go_wp2_with fail
 go_ret
 exact ⟨rfl, ((HO7.out.drewN _).later hs8).take 2⟩
theorem rl_need (w0 : World) (R : Thing) (g : Nat) (s : TkS) (t : ByteArray) (a b : List UInt8) (n1 n2 : Nat) (hn1 : dgN a = some n1) (hn2 : dgN b = some n2) (hg : n2 < n1) (k : Nat) (hk : leastN ((n1 : Int) - n2) = (k : Int)) (hw : cutAt 32 t.data.toList = [wNeed, a, b]) (hz : t.size ≤ 3000) (w : World) (ho : Own w0 [] w [rtT g s, R]) :
  Calls Tryz.prog 38 #[.pointer (some ⟨g, 0, none⟩), .string t] w fun e w' => e = .returned (.string ⟨(Lib.itoa (k : Int)).toArray⟩) ∧ Own w0 [] w' [rtT g s, R] := by
 have HO := Lib.hid ho
 have HW := Lib.hid hw
 have hn9 := (dg_yes hn1).2.2.2.2
 have HN1 := Lib.hid hn1
 have HN2 := Lib.hid hn2
 clear hn1 hn2
 have hgI : decide ((n1 : Int) ≤ (n2 : Int)) = false := by simp; omega
 have hgN : decide (n1 ≤ n2) = false := by simp; omega
 have hgM : ¬ n1 ≤ n2 := by omega
 have HND : Hid (∀ W, Calls Tryz.prog 84 #[.int .i64 (n1 : Int), .int .i64 (n2 : Int)] W fun e w' => e = .returned (.int .i64 (k : Int)) ∧ W = w') := Lib.hid (fun W => by
  have := rneed_any (n1 : Int) (n2 : Int) (by omega) (by omega) (by omega) W
  rw [hk] at this
  exact this)
 have hk4 : k ≤ 4 := by have := (leastN_bounds ((n1 : Int) - n2)).2; omega
 clear hk hg
 clear ho hw
 go_enter Tryz.func38, Tryz.ntmps38
 go_wp2_with fail
 refine (rcut32 t HW.out rfl w0 w _ hz HO.out).mono ?_
 rintro e w1 ⟨q, cp, rfl, hl1, ho1⟩
 have HO1 := Lib.hid ho1
 have c0 : w1.cell? ⟨q, 0, none⟩ = some (.string ⟨#[110, 101, 101, 100]⟩) := wcell hl1 (j := 0) rfl
 have c1 : w1.cell? ⟨q, 1, none⟩ = some (.string ⟨a.toArray⟩) := wcell hl1 (j := 1) rfl
 obtain ⟨A1, hA1⟩ : ∃ A : ByteArray, A = ⟨a.toArray⟩ := ⟨_, rfl⟩
 rw [← hA1] at c1
 have c2 : w1.cell? ⟨q, 2, none⟩ = some (.string ⟨b.toArray⟩) := wcell hl1 (j := 2) rfl
 obtain ⟨A2, hA2⟩ : ∃ A : ByteArray, A = ⟨b.toArray⟩ := ⟨_, rfl⟩
 rw [← hA2] at c2
 have HNU1 := Lib.hid (numb_yes hA1 HN1.out)
 have HNU2 := Lib.hid (numb_yes hA2 HN2.out)
 clear ho1 hl1 hA1 hA2
 go_wp2_with fail
 refine wp_loop_rounds 3 ?_
 rw [rounds_succ]
 go_wp2_with fail
 refine (HNU1.out _).mono ?_
 rintro e w2 ⟨rfl, rfl⟩
 go_wp2_with (at_builtin; refine wpList_push rfl _ _ 22 rfl 3 1 8 Tryz.elInt (.slice none 0 0) [] rfl (Lst.nil _ _ _) w2.heap.size 1 [.int .i64 n1] rfl rfl (intRow_one n1).2 (BlockIs.fresh _ _ _) (by decide) ?_; intro qn cn w5 hl5 ho5 hq5 hlt5)
 obtain ⟨hs5, hqn, -, -⟩ := rl_push1 HO1.out hl5 ho5 hq5
 have e0 := hs5.cell (World.block_lt_of_cell? _ _ c0) c0
 have e1 := hs5.cell (World.block_lt_of_cell? _ _ c1) c1
 have e2 := hs5.cell (World.block_lt_of_cell? _ _ c2) c2
 rw [rounds_succ]
 go_wp2_with fail
 refine (HNU2.out _).mono ?_
 rintro e w6 ⟨rfl, rfl⟩
 have HL5 := Lib.hid hl5
 clear hl5
 go_wp2_with (at_builtin; refine wpList_push rfl _ _ 22 rfl 3 1 8 Tryz.elInt (.slice (some ⟨qn, 0, none⟩) 1 cn) [intRow n1] rfl (HL5.out.alloc _) w6.heap.size 1 [.int .i64 n2] rfl rfl (intRow_one n2).2 (BlockIs.fresh _ _ _) (by show 1 + 1 ≤ 1000000; decide) ?_; intro qm cm w7 hl7 ho7 hq7 hlt7)
 obtain ⟨hs7, hO7, d0, d1⟩ := rl_push2 HO1.out hs5 hqn hl7 ho7 hq7
 have HO7 := Lib.hid hO7
 have f0 := hs7.cell (World.block_lt_of_cell? _ _ c0) c0
 have f1 := hs7.cell (World.block_lt_of_cell? _ _ c1) c1
 have f2 := hs7.cell (World.block_lt_of_cell? _ _ c2) c2
 clear hl7 ho7 hq7 hqn hO7 ho5 hq5
 rw [rounds_succ]
 have l7 := World.block_lt_of_cell? _ _ d0
 go_wp2_with fail
 go_quiet (fail)
 rename_i nq
 go_wp2_with fail
 have s9 : Since w7 (w7.drewN nq) := (Since.refl w7).drewN nq
 obtain ⟨w9, hw9⟩ : ∃ x, w7.drewN nq = x := ⟨_, rfl⟩
 rw [hw9] at s9
 rw [hw9]
 have e30 := s9.cell l7 d0
 have e31 := s9.cell l7 d1
 have l9 : qm < w9.heap.size := Nat.lt_of_lt_of_le l7 s9.size
 clear hw9
 go_still_tail 6, (by kernel_rfl)
 change wpList _ _ _ _ _ w9.drew
 go_wp2_with fail
 refine (HND.out _).mono ?_
 rintro e w8 ⟨rfl, rfl⟩
 go_wp2_with fail
 refine (rdigits k _ (by omega)).mono ?_
 rintro e w8 ⟨rfl, hs8⟩
 go_wp2_with fail
 go_ret
 exact ⟨rfl, (((HO7.out.later s9).drew).later hs8).take 2⟩
theorem rl_write_none (w0 : World) (R : Thing) (g : Nat) (s : TkS) (t : ByteArray) (a : List UInt8) (hw : cutAt 32 t.data.toList = [wWrite, a, []]) (hz : t.size ≤ 3000) (w : World) (ho : Own w0 [] w [rtT g s, R]) :
  Calls Tryz.prog 38 #[.pointer (some ⟨g, 0, none⟩), .string t] w fun e w' => e = .returned (.string ⟨#[98, 97, 100]⟩) ∧ Own w0 [] w' [rtT g s, R] := by
 have HO := Lib.hid ho
 have HW := Lib.hid hw
 clear ho hw
 go_enter Tryz.func38, Tryz.ntmps38
 go_wp2_with fail
 refine (rcut32 t HW.out rfl w0 w _ hz HO.out).mono ?_
 rintro e w1 ⟨q, cp, rfl, hl1, ho1⟩
 have HO1 := Lib.hid ho1
 have c0 : w1.cell? ⟨q, 0, none⟩ = some (.string ⟨#[119, 114, 105, 116, 101]⟩) := wcell hl1 (j := 0) rfl
 have c2 : w1.cell? ⟨q, 2, none⟩ = some (.string ⟨#[]⟩) := wcell hl1 (j := 2) rfl
 have hcp : 3 ≤ cp := lcap hl1
 have hcp2 : 2 ≤ cp := by omega
 have hcpI : (2 : Int) ≤ (cp : Int) := by omega
 clear hcp
 clear ho1 hl1
 go_wp2_with fail
 go_ret
 exact ⟨rfl, HO1.out⟩
theorem rl_write_no (w0 : World) (R : Thing) (g : Nat) (s : TkS) (t : ByteArray) (a d : List UInt8) (hd : d ≠ []) (hn1 : dgN a = none) (hw : cutAt 32 t.data.toList = [wWrite, a, d]) (hz : t.size ≤ 3000) (w : World) (ho : Own w0 [] w [rtT g s, R]) :
  Calls Tryz.prog 38 #[.pointer (some ⟨g, 0, none⟩), .string t] w fun e w' => e = .returned (.string ⟨#[98, 97, 100]⟩) ∧ Own w0 [] w' [rtT g s, R] := by
 have HO := Lib.hid ho
 have HW := Lib.hid hw
 obtain ⟨D, hD⟩ : ∃ D : ByteArray, D = ⟨d.toArray⟩ := ⟨_, rfl⟩
 have hDe : D.toList.isEmpty = false := not_empty (fun e => hd (by rw [hD] at e; injection e with e; simpa using e))
 have HD := Lib.hid hD
 clear hD hd
 have HN1 := Lib.hid hn1
 clear hn1
 clear ho hw
 go_enter Tryz.func38, Tryz.ntmps38
 go_wp2_with fail
 refine (rcut32 t HW.out rfl w0 w _ hz HO.out).mono ?_
 rintro e w1 ⟨q, cp, rfl, hl1, ho1⟩
 have HO1 := Lib.hid ho1
 have c0 : w1.cell? ⟨q, 0, none⟩ = some (.string ⟨#[119, 114, 105, 116, 101]⟩) := wcell hl1 (j := 0) rfl
 have c1 : w1.cell? ⟨q, 1, none⟩ = some (.string ⟨a.toArray⟩) := wcell hl1 (j := 1) rfl
 obtain ⟨A1, hA1⟩ : ∃ A : ByteArray, A = ⟨a.toArray⟩ := ⟨_, rfl⟩
 rw [← hA1] at c1
 have c2 : w1.cell? ⟨q, 2, none⟩ = some (.string D) := by rw [HD.out]; exact wcell hl1 (j := 2) rfl
 have hcp : 3 ≤ cp := lcap hl1
 have hcp2 : 2 ≤ cp := by omega
 have hcpI : (2 : Int) ≤ (cp : Int) := by omega
 clear hcp
 have HNU1 := Lib.hid (numb_no hA1 HN1.out)
 clear ho1 hl1 hA1
 go_wp2_with fail
 refine wp_loop_rounds 1 ?_
 rw [rounds_succ]
 go_wp2_with fail
 refine (HNU1.out _).mono ?_
 rintro e w2 ⟨rfl, rfl⟩
 go_wp2_with fail
 go_ret
 exact ⟨rfl, HO1.out⟩
theorem rl_write_big (w0 : World) (R : Thing) (g : Nat) (s : TkS) (t : ByteArray) (a d : List UInt8) (hd : d ≠ []) (n1 : Nat) (hn1 : dgN a = some n1) (hg : 1 < n1) (hw : cutAt 32 t.data.toList = [wWrite, a, d]) (hz : t.size ≤ 3000) (w : World) (ho : Own w0 [] w [rtT g s, R]) :
  Calls Tryz.prog 38 #[.pointer (some ⟨g, 0, none⟩), .string t] w fun e w' => e = .returned (.string (eName 1)) ∧ Own w0 [] w' [rtT g s, R] := by
 have HO := Lib.hid ho
 have HW := Lib.hid hw
 obtain ⟨D, hD⟩ : ∃ D : ByteArray, D = ⟨d.toArray⟩ := ⟨_, rfl⟩
 have hDe : D.toList.isEmpty = false := not_empty (fun e => hd (by rw [hD] at e; injection e with e; simpa using e))
 have HD := Lib.hid hD
 clear hD hd
 have HN1 := Lib.hid hn1
 clear hn1
 have hgI : (1 : Int) < (n1 : Int) := by omega
 clear ho hw
 go_enter Tryz.func38, Tryz.ntmps38
 go_wp2_with fail
 refine (rcut32 t HW.out rfl w0 w _ hz HO.out).mono ?_
 rintro e w1 ⟨q, cp, rfl, hl1, ho1⟩
 have HO1 := Lib.hid ho1
 have c0 : w1.cell? ⟨q, 0, none⟩ = some (.string ⟨#[119, 114, 105, 116, 101]⟩) := wcell hl1 (j := 0) rfl
 have c1 : w1.cell? ⟨q, 1, none⟩ = some (.string ⟨a.toArray⟩) := wcell hl1 (j := 1) rfl
 obtain ⟨A1, hA1⟩ : ∃ A : ByteArray, A = ⟨a.toArray⟩ := ⟨_, rfl⟩
 rw [← hA1] at c1
 have c2 : w1.cell? ⟨q, 2, none⟩ = some (.string D) := by rw [HD.out]; exact wcell hl1 (j := 2) rfl
 have hcp : 3 ≤ cp := lcap hl1
 have hcp2 : 2 ≤ cp := by omega
 have hcpI : (2 : Int) ≤ (cp : Int) := by omega
 clear hcp
 have HNU1 := Lib.hid (numb_yes hA1 HN1.out)
 clear ho1 hl1 hA1
 go_wp2_with fail
 refine wp_loop_rounds 2 ?_
 rw [rounds_succ]
 go_wp2_with fail
 refine (HNU1.out _).mono ?_
 rintro e w2 ⟨rfl, rfl⟩
 go_wp2_with (at_builtin; refine wpList_push rfl _ _ 22 rfl 3 1 8 Tryz.elInt (.slice none 0 0) [] rfl (Lst.nil _ _ _) w2.heap.size 1 [.int .i64 n1] rfl rfl (intRow_one n1).2 (BlockIs.fresh _ _ _) (by decide) ?_; intro qn cn w5 hl5 ho5 hq5 hlt5)
 obtain ⟨hs5, hqn, hO5, d0⟩ := rl_push1 HO1.out hl5 ho5 hq5
 have HO5 := Lib.hid hO5
 have e0 := hs5.cell (World.block_lt_of_cell? _ _ c0) c0
 have e1 := hs5.cell (World.block_lt_of_cell? _ _ c1) c1
 clear hl5 ho5 hq5 hqn hO5
 rw [rounds_succ]
 go_wp2_with fail
 refine (rname 1 (by decide) (by decide) _).mono ?_
 rintro e w8 ⟨rfl, hs8⟩
 go_wp2_with fail
 go_ret
 exact ⟨rfl, (HO5.out.later hs8).take 2⟩
theorem rl_write0 (w0 : World) (R : Thing) (g : Nat) (s : TkS) (t : ByteArray) (a d : List UInt8) (hd : d ≠ []) (hn1 : dgN a = some 0) (hw : cutAt 32 t.data.toList = [wWrite, a, d]) (hz : t.size ≤ 3000) (w : World) (ho : Own w0 [] w [rtT g s, R]) :
  Calls Tryz.prog 38 #[.pointer (some ⟨g, 0, none⟩), .string t] w fun e w' => e = .returned (.string (doneV (s.e0.writeE ⟨d.toArray⟩))) ∧ Own w0 [] w' [rtT g { s with e0 := s.e0.write ⟨d.toArray⟩ }, R] := by
 have HO := Lib.hid ho
 have HW := Lib.hid hw
 obtain ⟨n1, hk1⟩ : ∃ n1 : Nat, n1 = 0 := ⟨_, rfl⟩
 rw [← hk1] at hn1
 have HK1 := Lib.hid hk1
 clear hk1
 obtain ⟨D, hD⟩ : ∃ D : ByteArray, D = ⟨d.toArray⟩ := ⟨_, rfl⟩
 have hDe : D.toList.isEmpty = false := not_empty (fun e => hd (by rw [hD] at e; injection e with e; simpa using e))
 have HD := Lib.hid hD
 have hd9 : D.size ≤ 3000 := by
  rw [hD]
  have := (cutAt_each (c := 32) (l := t.data.toList) d (by rw [hw]; simp)).2
  have e2 : t.data.toList.length = t.data.size := Array.length_toList
  have hz' : t.data.size ≤ 3000 := hz
  show d.length ≤ 3000
  omega
 rw [← hD]
 have he : Nine (s.e0.writeE D) := by unfold EnS.writeE; split <;> (refine ⟨?_, ?_⟩ <;> decide)
 obtain ⟨E, hE⟩ : ∃ E, s.e0.writeE D = E := ⟨_, rfl⟩
 rw [hE] at he ⊢
 have HE := Lib.hid hE
 clear hE
 clear hD hd
 have HN1 := Lib.hid hn1
 clear hn1
 clear ho hw
 go_enter Tryz.func38, Tryz.ntmps38
 go_wp2_with fail
 refine (rcut32 t HW.out rfl w0 w _ hz HO.out).mono ?_
 rintro e w1 ⟨q, cp, rfl, hl1, ho1⟩
 have HO1 := Lib.hid ho1
 have c0 : w1.cell? ⟨q, 0, none⟩ = some (.string ⟨#[119, 114, 105, 116, 101]⟩) := wcell hl1 (j := 0) rfl
 have c1 : w1.cell? ⟨q, 1, none⟩ = some (.string ⟨a.toArray⟩) := wcell hl1 (j := 1) rfl
 obtain ⟨A1, hA1⟩ : ∃ A : ByteArray, A = ⟨a.toArray⟩ := ⟨_, rfl⟩
 rw [← hA1] at c1
 have c2 : w1.cell? ⟨q, 2, none⟩ = some (.string D) := by rw [HD.out]; exact wcell hl1 (j := 2) rfl
 have hcp : 3 ≤ cp := lcap hl1
 have hcp2 : 2 ≤ cp := by omega
 have hcpI : (2 : Int) ≤ (cp : Int) := by omega
 clear hcp
 have HNU1 := Lib.hid (numb_yes hA1 HN1.out)
 clear ho1 hl1 hA1
 go_wp2_with fail
 refine wp_loop_rounds 2 ?_
 rw [rounds_succ]
 go_wp2_with fail
 refine (HNU1.out _).mono ?_
 rintro e w2 ⟨rfl, rfl⟩
 go_wp2_with (at_builtin; refine wpList_push rfl _ _ 22 rfl 3 1 8 Tryz.elInt (.slice none 0 0) [] rfl (Lst.nil _ _ _) w2.heap.size 1 [.int .i64 n1] rfl rfl (intRow_one n1).2 (BlockIs.fresh _ _ _) (by decide) ?_; intro qn cn w5 hl5 ho5 hq5 hlt5)
 obtain ⟨hs5, hqn, hO5, d0⟩ := rl_push1 HO1.out hl5 ho5 hq5
 have HO5 := Lib.hid hO5
 have e0 := hs5.cell (World.block_lt_of_cell? _ _ c0) c0
 have e1 := hs5.cell (World.block_lt_of_cell? _ _ c1) c1
 clear hl5 ho5 hq5 hqn hO5
 rw [rounds_succ]
 have hk1 := HK1.out
 subst hk1
 obtain ⟨S, hS, up⟩ := HO5.out.drew.at_ 0 rfl
 obtain ⟨ge, ce, lg, S0, h0, upe⟩ := rt_end0 hS
 replace ce : w5.cell? ⟨g, 0, none⟩ = some (.pointer (some ⟨ge, 0, none⟩)) := ce
 replace lg : g < w5.heap.size := lg
 have HWR := Lib.hid (nwrite ge s.e0 D _ S0 h0 (by omega))
 have HUP := Lib.hid (fun W x hl => up W _ (upe W x hl))
 clear hS h0 upe up
 rw [HE.out] at HWR
 go_wp2_with fail
 go_still_tail 9, (by kernel_rfl)
 change wpList _ _ _ _ _ w5.drew
 go_wp2_with fail
 refine HWR.out.mono ?_
 rintro e w8 ⟨rfl, hl8⟩
 have HO8 := Lib.hid (HUP.out _ _ hl8)
 clear hl8
 go_wp2_with fail
 refine (rdone _ he.1 he.2 _).mono ?_
 rintro e w9 ⟨rfl, hs9⟩
 go_wp2_with fail
 go_ret
 exact ⟨rfl, (HO8.out.later hs9).take 2⟩
theorem rl_write1 (w0 : World) (R : Thing) (g : Nat) (s : TkS) (t : ByteArray) (a d : List UInt8) (hd : d ≠ []) (hn1 : dgN a = some 1) (hw : cutAt 32 t.data.toList = [wWrite, a, d]) (hz : t.size ≤ 3000) (w : World) (ho : Own w0 [] w [rtT g s, R]) :
  Calls Tryz.prog 38 #[.pointer (some ⟨g, 0, none⟩), .string t] w fun e w' => e = .returned (.string (doneV (s.e1.writeE ⟨d.toArray⟩))) ∧ Own w0 [] w' [rtT g { s with e1 := s.e1.write ⟨d.toArray⟩ }, R] := by
 have HO := Lib.hid ho
 have HW := Lib.hid hw
 obtain ⟨n1, hk1⟩ : ∃ n1 : Nat, n1 = 1 := ⟨_, rfl⟩
 rw [← hk1] at hn1
 have HK1 := Lib.hid hk1
 clear hk1
 obtain ⟨D, hD⟩ : ∃ D : ByteArray, D = ⟨d.toArray⟩ := ⟨_, rfl⟩
 have hDe : D.toList.isEmpty = false := not_empty (fun e => hd (by rw [hD] at e; injection e with e; simpa using e))
 have HD := Lib.hid hD
 have hd9 : D.size ≤ 3000 := by
  rw [hD]
  have := (cutAt_each (c := 32) (l := t.data.toList) d (by rw [hw]; simp)).2
  have e2 : t.data.toList.length = t.data.size := Array.length_toList
  have hz' : t.data.size ≤ 3000 := hz
  show d.length ≤ 3000
  omega
 rw [← hD]
 have he : Nine (s.e1.writeE D) := by unfold EnS.writeE; split <;> (refine ⟨?_, ?_⟩ <;> decide)
 obtain ⟨E, hE⟩ : ∃ E, s.e1.writeE D = E := ⟨_, rfl⟩
 rw [hE] at he ⊢
 have HE := Lib.hid hE
 clear hE
 clear hD hd
 have HN1 := Lib.hid hn1
 clear hn1
 clear ho hw
 go_enter Tryz.func38, Tryz.ntmps38
 go_wp2_with fail
 refine (rcut32 t HW.out rfl w0 w _ hz HO.out).mono ?_
 rintro e w1 ⟨q, cp, rfl, hl1, ho1⟩
 have HO1 := Lib.hid ho1
 have c0 : w1.cell? ⟨q, 0, none⟩ = some (.string ⟨#[119, 114, 105, 116, 101]⟩) := wcell hl1 (j := 0) rfl
 have c1 : w1.cell? ⟨q, 1, none⟩ = some (.string ⟨a.toArray⟩) := wcell hl1 (j := 1) rfl
 obtain ⟨A1, hA1⟩ : ∃ A : ByteArray, A = ⟨a.toArray⟩ := ⟨_, rfl⟩
 rw [← hA1] at c1
 have c2 : w1.cell? ⟨q, 2, none⟩ = some (.string D) := by rw [HD.out]; exact wcell hl1 (j := 2) rfl
 have hcp : 3 ≤ cp := lcap hl1
 have hcp2 : 2 ≤ cp := by omega
 have hcpI : (2 : Int) ≤ (cp : Int) := by omega
 clear hcp
 have HNU1 := Lib.hid (numb_yes hA1 HN1.out)
 clear ho1 hl1 hA1
 go_wp2_with fail
 refine wp_loop_rounds 2 ?_
 rw [rounds_succ]
 go_wp2_with fail
 refine (HNU1.out _).mono ?_
 rintro e w2 ⟨rfl, rfl⟩
 go_wp2_with (at_builtin; refine wpList_push rfl _ _ 22 rfl 3 1 8 Tryz.elInt (.slice none 0 0) [] rfl (Lst.nil _ _ _) w2.heap.size 1 [.int .i64 n1] rfl rfl (intRow_one n1).2 (BlockIs.fresh _ _ _) (by decide) ?_; intro qn cn w5 hl5 ho5 hq5 hlt5)
 obtain ⟨hs5, hqn, hO5, d0⟩ := rl_push1 HO1.out hl5 ho5 hq5
 have HO5 := Lib.hid hO5
 have e0 := hs5.cell (World.block_lt_of_cell? _ _ c0) c0
 have e1 := hs5.cell (World.block_lt_of_cell? _ _ c1) c1
 clear hl5 ho5 hq5 hqn hO5
 rw [rounds_succ]
 have hk1 := HK1.out
 subst hk1
 obtain ⟨S, hS, up⟩ := HO5.out.drew.at_ 0 rfl
 obtain ⟨ge, ce, lg, S0, h0, upe⟩ := rt_end1 hS
 replace ce : w5.cell? ⟨g, 1, none⟩ = some (.pointer (some ⟨ge, 0, none⟩)) := ce
 replace lg : g < w5.heap.size := lg
 have HWR := Lib.hid (nwrite ge s.e1 D _ S0 h0 (by omega))
 have HUP := Lib.hid (fun W x hl => up W _ (upe W x hl))
 clear hS h0 upe up
 rw [HE.out] at HWR
 go_wp2_with fail
 go_still_tail 9, (by kernel_rfl)
 change wpList _ _ _ _ _ w5.drew
 go_wp2_with fail
 refine HWR.out.mono ?_
 rintro e w8 ⟨rfl, hl8⟩
 have HO8 := Lib.hid (HUP.out _ _ hl8)
 clear hl8
 go_wp2_with fail
 refine (rdone _ he.1 he.2 _).mono ?_
 rintro e w9 ⟨rfl, hs9⟩
 go_wp2_with fail
 go_ret
 exact ⟨rfl, (HO8.out.later hs9).take 2⟩
theorem ansW_no {s : TkS} {ws : List (List UInt8)} (h : parse ws = none) : ansW s ws = (bBad, s) := by
 unfold ansW
 rw [h]
theorem ansW_yes {s : TkS} {ws : List (List UInt8)} {x : List UInt8} {ns : List Nat} {d : List UInt8} {X : ByteArray} {e : Int} {s' : TkS} (h : parse ws = some (x, ns, d)) (hw : doW s x ns d = (X, e, s')) : ansW s ws = (if e = 0 then X else eName e, s') := by
 unfold ansW
 rw [h]
 show (if (doW s x ns d).2.1 = 0 then (doW s x ns d).1 else eName (doW s x ns d).2.1, (doW s x ns d).2.2) = _
 rw [hw]
theorem parse_cons {x : List UInt8} {r : List (List UInt8)} (hx : x ≠ wWrite) : parse (x :: r) = (match manyOf x with
 | none => none
 | some m => match nums r with
   | none => none
   | some ns => if ns.length = m then some (x, ns, []) else none) := if_neg hx
theorem parse_wr {r : List (List UInt8)} : parse (wWrite :: r) = (match r with
 | [a, d] => if d = [] then none else match dgN a with
   | none => none
   | some n => some (wWrite, [n], d)
 | _ => none) := rfl
theorem parse_len {x : List UInt8} {r : List (List UInt8)} {m : Nat} (hx : x ≠ wWrite) (hm : manyOf x = some m) (hr : r.length ≠ m) : parse (x :: r) = none := by
 rw [parse_cons hx, hm]
 cases hn : nums r with
 | none => rfl
 | some ns =>
   have := nums_len hn
   show (if ns.length = m then some (x, ns, []) else none) = none
   rw [if_neg (by omega)]
theorem parse_none {x : List UInt8} {r : List (List UInt8)} (hm : ¬ (manyOf x).isSome = true) : parse (x :: r) = none := by
 have hx : x ≠ wWrite := fun e => hm (by rw [e]; decide)
 rw [parse_cons hx]
 cases hn : manyOf x with
 | none => rfl
 | some m => rw [hn] at hm; exact absurd rfl hm
theorem parse_no1 {x a : List UInt8} {m : Nat} (hx : x ≠ wWrite) (hm : manyOf x = some m) {r : List (List UInt8)} (ha : dgN a = none) : parse (x :: a :: r) = none := by
 rw [parse_cons hx, hm, nums, ha]
theorem parse_no2 {x a b : List UInt8} {m n : Nat} (hx : x ≠ wWrite) (hm : manyOf x = some m) {r : List (List UInt8)} (ha : dgN a = some n) (hb : dgN b = none) : parse (x :: a :: b :: r) = none := by
 rw [parse_cons hx, hm, nums, ha, nums, hb]
theorem parse_1 {x a : List UInt8} {n : Nat} (hx : x ≠ wWrite) (hm : manyOf x = some 1) (ha : dgN a = some n) : parse [x, a] = some (x, [n], []) := by
 rw [parse_cons hx, hm, nums, ha]
 rfl
theorem parse_2 {x a b : List UInt8} {n k : Nat} (hx : x ≠ wWrite) (hm : manyOf x = some 2) (ha : dgN a = some n) (hb : dgN b = some k) : parse [x, a, b] = some (x, [n, k], []) := by
 rw [parse_cons hx, hm, nums, ha, nums, hb]
 rfl
theorem parse_wlen {r : List (List UInt8)} (hr : r.length ≠ 2) : parse (wWrite :: r) = none := by
 rw [parse_wr]
 match r, hr with
 | [], _ => rfl
 | [_], _ => rfl
 | [_, _], h => exact absurd rfl h
 | _ :: _ :: _ :: _, _ => rfl
theorem parse_w {a d : List UInt8} (hd : d ≠ []) : parse [wWrite, a, d] = match dgN a with
  | none => none
  | some n => some (wWrite, [n], d) := by
 rw [parse_wr]
 exact if_neg hd
theorem two_of {α : Type} {r : List α} (h : r.length = 2) : ∃ a b, r = [a, b] := by
 match r, h with
 | [a, b], _ => exact ⟨a, b, rfl⟩
theorem who_no {n : Nat} (h : 1 < n) : whoB (n : Int) = false := by
 unfold whoB
 rw [Bool.or_eq_false_iff, decide_eq_false_iff_not, decide_eq_false_iff_not]
 omega
theorem doW_send (s : TkS) (n : Nat) (d : List UInt8) : doW s wSend [n] d = (bOk, s.sendE n, s.send n) := by
 unfold doW
 rw [if_neg (by decide), if_pos rfl]
 rfl
theorem doW_come (s : TkS) (n : Nat) (d : List UInt8) : doW s wCome [n] d = (bOk, s.comeE n, s.come n) := by
 unfold doW
 rw [if_neg (by decide), if_neg (by decide), if_pos rfl]
 rfl
theorem doW_lose (s : TkS) (n : Nat) (d : List UInt8) : doW s wLose [n] d = (bOk, giveE s.L n, { s with L := giveL s.L n }) := by
 unfold doW
 rw [if_neg (by decide), if_neg (by decide), if_neg (by decide), if_pos rfl]
 rfl
theorem doW_twice (s : TkS) (n : Nat) (d : List UInt8) : doW s wTwice [n] d = (bOk, twiceE s.L n, { s with L := twiceL s.L n }) := by
 unfold doW
 rw [if_neg (by decide), if_neg (by decide), if_neg (by decide), if_neg (by decide), if_pos rfl]
 rfl
theorem doW_read (s : TkS) (n k : Nat) (d : List UInt8) : doW s wRead [n, k] d = (if s.readS n k = ⟨#[]⟩ then bDash else s.readS n k, TkS.readE n k, s.read n k) := by
 unfold doW
 rw [if_neg (by decide), if_neg (by decide), if_neg (by decide), if_neg (by decide), if_neg (by decide), if_pos rfl]
 rfl
theorem doW_varint (s : TkS) (n : Nat) (d : List UInt8) : doW s wVarint [n] d = (⟨(tells (vbytes n)).toArray⟩, 0, s) := by
 unfold doW
 rw [if_neg (by decide), if_neg (by decide), if_neg (by decide), if_neg (by decide), if_neg (by decide), if_neg (by decide), if_pos rfl]
 rfl
theorem doW_need (s : TkS) (n k : Nat) (d : List UInt8) : doW s wNeed [n, k] d = (⟨(Lib.itoa (needV n k)).toArray⟩, needE n k, s) := by
 unfold doW
 rw [if_neg (by decide), if_neg (by decide), if_neg (by decide), if_neg (by decide), if_neg (by decide), if_neg (by decide), if_neg (by decide), if_pos rfl]
 rfl
theorem doW_count (s : TkS) (d : List UInt8) : doW s wCount [] d = (⟨(Lib.itoa (s.L.length : Int)).toArray⟩, 0, s) := by
 unfold doW
 rw [if_neg (by decide), if_neg (by decide), if_neg (by decide), if_neg (by decide), if_neg (by decide), if_neg (by decide), if_neg (by decide), if_neg (by decide)]
theorem doW_write (s : TkS) (n : Nat) (d : List UInt8) : doW s wWrite [n] d = (bOk, s.writeE n ⟨d.toArray⟩, s.write n ⟨d.toArray⟩) := by
 unfold doW
 rw [if_pos rfl]
 rfl
abbrev LineC (w0 : World) (R : Thing) (g : Nat) (s : TkS) (t : ByteArray) (ws : List (List UInt8)) (w : World) : Prop :=
 Calls Tryz.prog 38 #[.pointer (some ⟨g, 0, none⟩), .string t] w fun e w' => e = .returned (.string (ansW s ws).1) ∧ Own w0 [] w' [rtT g (ansW s ws).2, R]
section
variable {w0 : World} {R : Thing} {g : Nat} {s : TkS} {t : ByteArray} {x : List UInt8} {r : List (List UInt8)} {w : World}
theorem rw_write (hz : t.size ≤ 3000) (hw : cutAt 32 t.data.toList = wWrite :: r) (ho : Own w0 [] w [rtT g s, R]) : LineC w0 R g s t (wWrite :: r) w := by
 unfold LineC
 by_cases hr : r.length = 2
 · obtain ⟨a, d, rfl⟩ := two_of hr
   by_cases hd : d = []
   · subst hd
     rw [ansW_no (by rw [parse_wr]; exact if_pos rfl)]
     exact rl_write_none w0 R g s t a hw hz w ho
   · cases ha : dgN a with
     | none =>
       rw [ansW_no (by rw [parse_w hd, ha])]
       exact rl_write_no w0 R g s t a d hd ha hw hz w ho
     | some n =>
       by_cases hg : 1 < n
       · have e1 : s.writeE n ⟨d.toArray⟩ = 1 := by unfold TkS.writeE; rw [who_no hg]; rfl
         have e2 : s.write n ⟨d.toArray⟩ = s := by unfold TkS.write; rw [who_no hg]; rfl
         rw [ansW_yes (by rw [parse_w hd, ha]) (doW_write s n d), e1, e2]
         exact rl_write_big w0 R g s t a d hd n ha hg hw hz w ho
       · rw [ansW_yes (by rw [parse_w hd, ha]) (doW_write s n d)]
         have : n = 0 ∨ n = 1 := by omega
         rcases this with rfl | rfl
         · exact rl_write0 w0 R g s t a d hd ha hw hz w ho
         · exact rl_write1 w0 R g s t a d hd ha hw hz w ho
 · rw [ansW_no (parse_wlen hr)]
   exact rl_write_len w0 R g s t r hr hw hz w ho
theorem rw_send (hf : Few s 1000) (hz : t.size ≤ 3000) (hw : cutAt 32 t.data.toList = wSend :: r) (ho : Own w0 [] w [rtT g s, R]) : LineC w0 R g s t (wSend :: r) w := by
 unfold LineC
 by_cases hr : r.length = 1
 · obtain ⟨a, rfl⟩ := List.length_eq_one_iff.1 hr
   cases ha : dgN a with
   | none =>
     rw [ansW_no (parse_no1 (by decide) (by decide : manyOf wSend = some 1) ha)]
     exact rl_send_no w0 R g s t a ha hw hz w ho
   | some n =>
     rw [ansW_yes (parse_1 (by decide) (by decide : manyOf wSend = some 1) ha) (doW_send s n [])]
     exact rl_send w0 R g s t a n ha hf hw hz w ho
 · rw [ansW_no (parse_len (by decide) (by decide : manyOf wSend = some 1) hr)]
   exact rl_send_len w0 R g s t r hr hw hz w ho
theorem rw_come (hf : Few s 1000) (hz : t.size ≤ 3000) (hw : cutAt 32 t.data.toList = wCome :: r) (ho : Own w0 [] w [rtT g s, R]) : LineC w0 R g s t (wCome :: r) w := by
 unfold LineC
 by_cases hr : r.length = 1
 · obtain ⟨a, rfl⟩ := List.length_eq_one_iff.1 hr
   cases ha : dgN a with
   | none =>
     rw [ansW_no (parse_no1 (by decide) (by decide : manyOf wCome = some 1) ha)]
     exact rl_come_no w0 R g s t a ha hw hz w ho
   | some n =>
     rw [ansW_yes (parse_1 (by decide) (by decide : manyOf wCome = some 1) ha) (doW_come s n [])]
     exact rl_come w0 R g s t a n ha hf hw hz w ho
 · rw [ansW_no (parse_len (by decide) (by decide : manyOf wCome = some 1) hr)]
   exact rl_come_len w0 R g s t r hr hw hz w ho
theorem rw_lose (hz : t.size ≤ 3000) (hw : cutAt 32 t.data.toList = wLose :: r) (ho : Own w0 [] w [rtT g s, R]) : LineC w0 R g s t (wLose :: r) w := by
 unfold LineC
 by_cases hr : r.length = 1
 · obtain ⟨a, rfl⟩ := List.length_eq_one_iff.1 hr
   cases ha : dgN a with
   | none =>
     rw [ansW_no (parse_no1 (by decide) (by decide : manyOf wLose = some 1) ha)]
     exact rl_lose_no w0 R g s t a ha hw hz w ho
   | some n =>
     rw [ansW_yes (parse_1 (by decide) (by decide : manyOf wLose = some 1) ha) (doW_lose s n [])]
     exact rl_lose w0 R g s t a n ha hw hz w ho
 · rw [ansW_no (parse_len (by decide) (by decide : manyOf wLose = some 1) hr)]
   exact rl_lose_len w0 R g s t r hr hw hz w ho
theorem rw_twice (hz : t.size ≤ 3000) (hw : cutAt 32 t.data.toList = wTwice :: r) (ho : Own w0 [] w [rtT g s, R]) : LineC w0 R g s t (wTwice :: r) w := by
 unfold LineC
 by_cases hr : r.length = 1
 · obtain ⟨a, rfl⟩ := List.length_eq_one_iff.1 hr
   cases ha : dgN a with
   | none =>
     rw [ansW_no (parse_no1 (by decide) (by decide : manyOf wTwice = some 1) ha)]
     exact rl_twice_no w0 R g s t a ha hw hz w ho
   | some n =>
     rw [ansW_yes (parse_1 (by decide) (by decide : manyOf wTwice = some 1) ha) (doW_twice s n [])]
     exact rl_twice w0 R g s t a n ha hw hz w ho
 · rw [ansW_no (parse_len (by decide) (by decide : manyOf wTwice = some 1) hr)]
   exact rl_twice_len w0 R g s t r hr hw hz w ho
theorem rw_varint (hz : t.size ≤ 3000) (hw : cutAt 32 t.data.toList = wVarint :: r) (ho : Own w0 [] w [rtT g s, R]) : LineC w0 R g s t (wVarint :: r) w := by
 unfold LineC
 by_cases hr : r.length = 1
 · obtain ⟨a, rfl⟩ := List.length_eq_one_iff.1 hr
   cases ha : dgN a with
   | none =>
     rw [ansW_no (parse_no1 (by decide) (by decide : manyOf wVarint = some 1) ha)]
     exact rl_varint_no w0 R g s t a ha hw hz w ho
   | some n =>
     rw [ansW_yes (parse_1 (by decide) (by decide : manyOf wVarint = some 1) ha) (doW_varint s n []), if_pos rfl]
     rcases vb_small (dg_yes ha).2.2.2.2 with ⟨b, hb⟩ | ⟨b, c, hb⟩
     · rw [hb, tells_1]
       exact rl_varint1 w0 R g s t a n ha b hb hw hz w ho
     · rw [hb, tells_2]
       exact rl_varint2 w0 R g s t a n ha b c hb hw hz w ho
 · rw [ansW_no (parse_len (by decide) (by decide : manyOf wVarint = some 1) hr)]
   exact rl_varint_len w0 R g s t r hr hw hz w ho
theorem rw_count (hz : t.size ≤ 3000) (hw : cutAt 32 t.data.toList = wCount :: r) (ho : Own w0 [] w [rtT g s, R]) : LineC w0 R g s t (wCount :: r) w := by
 unfold LineC
 by_cases hr : r.length = 0
 · obtain rfl := List.length_eq_zero_iff.1 hr
   rw [ansW_yes (by rw [parse_cons (by decide), (by decide : manyOf wCount = some 0), nums]; rfl) (doW_count s []), if_pos rfl]
   exact rl_count w0 R g s t hw hz w ho
 · rw [ansW_no (parse_len (by decide) (by decide : manyOf wCount = some 0) hr)]
   exact rl_count_len w0 R g s t r hr hw hz w ho
theorem rw_read (hz : t.size ≤ 3000) (hw : cutAt 32 t.data.toList = wRead :: r) (ho : Own w0 [] w [rtT g s, R]) : LineC w0 R g s t (wRead :: r) w := by
 unfold LineC
 by_cases hr : r.length = 2
 · obtain ⟨a, b, rfl⟩ := two_of hr
   cases ha : dgN a with
   | none =>
     rw [ansW_no (parse_no1 (by decide) (by decide : manyOf wRead = some 2) ha)]
     exact rl_read_no1 w0 R g s t a b ha hw hz w ho
   | some n =>
     cases hb : dgN b with
     | none =>
       rw [ansW_no (parse_no2 (by decide) (by decide : manyOf wRead = some 2) ha hb)]
       exact rl_read_no2 w0 R g s t a b n ha hb hw hz w ho
     | some k =>
       rw [ansW_yes (parse_2 (by decide) (by decide : manyOf wRead = some 2) ha hb) (doW_read s n k [])]
       by_cases hg : 1 < n
       · have e1 : TkS.readE n k = 1 := by unfold TkS.readE; rw [who_no hg]; rfl
         have e2 : s.read n k = s := by unfold TkS.read; rw [who_no hg]; rfl
         rw [e1, e2, if_neg (by decide)]
         exact rl_read_big w0 R g s t a b n k ha hb hg hw hz w ho
       · have : n = 0 ∨ n = 1 := by omega
         have e0 : EnS.readE (k : Int) = 0 := by unfold EnS.readE; rw [if_neg (by omega)]
         rcases this with rfl | rfl
         · have e1 : TkS.readE ((0 : Nat) : Int) k = 0 := e0
           rw [e1, if_pos rfl]
           exact rl_read0 w0 R g s t a b k ha hb hw hz w ho
         · have e1 : TkS.readE ((1 : Nat) : Int) k = 0 := e0
           rw [e1, if_pos rfl]
           exact rl_read1 w0 R g s t a b k ha hb hw hz w ho
 · rw [ansW_no (parse_len (by decide) (by decide : manyOf wRead = some 2) hr)]
   exact rl_read_len w0 R g s t r hr hw hz w ho
theorem rw_need (hz : t.size ≤ 3000) (hw : cutAt 32 t.data.toList = wNeed :: r) (ho : Own w0 [] w [rtT g s, R]) : LineC w0 R g s t (wNeed :: r) w := by
 unfold LineC
 by_cases hr : r.length = 2
 · obtain ⟨a, b, rfl⟩ := two_of hr
   cases ha : dgN a with
   | none =>
     rw [ansW_no (parse_no1 (by decide) (by decide : manyOf wNeed = some 2) ha)]
     exact rl_need_no1 w0 R g s t a b ha hw hz w ho
   | some n =>
     cases hb : dgN b with
     | none =>
       rw [ansW_no (parse_no2 (by decide) (by decide : manyOf wNeed = some 2) ha hb)]
       exact rl_need_no2 w0 R g s t a b n ha hb hw hz w ho
     | some k =>
       have hn9 := (dg_yes ha).2.2.2.2
       rw [ansW_yes (parse_2 (by decide) (by decide : manyOf wNeed = some 2) ha hb) (doW_need s n k [])]
       by_cases hg : n ≤ k
       · have e1 : needE (n : Int) k = 1 := by unfold needE; rw [if_neg (by rintro ⟨-, -, h⟩; omega)]
         rw [e1, if_neg (by decide)]
         exact rl_need_big w0 R g s t a b n k ha hb hg hw hz w ho
       · have hk : NeedOk (n : Int) k := ⟨by unfold MayBe; omega, by omega, by omega⟩
         have e1 : needE (n : Int) k = 0 := by unfold needE; rw [if_pos hk]
         have e2 : needV (n : Int) k = leastN ((n : Int) - k) := by unfold needV; rw [if_pos hk]
         rw [e1, if_pos rfl, e2]
         have h1 := (leastN_bounds ((n : Int) - k)).1
         obtain ⟨u, hu⟩ : ∃ u : Nat, leastN ((n : Int) - k) = (u : Int) := ⟨(leastN ((n : Int) - k)).toNat, by omega⟩
         rw [hu]
         exact rl_need w0 R g s t a b n k ha hb (by omega) u hu hw hz w ho
 · rw [ansW_no (parse_len (by decide) (by decide : manyOf wNeed = some 2) hr)]
   exact rl_need_len w0 R g s t r hr hw hz w ho
theorem rline (hf : Few s 1000) (hz : t.size ≤ 3000) (ho : Own w0 [] w [rtT g s, R]) :
  Calls Tryz.prog 38 #[.pointer (some ⟨g, 0, none⟩), .string t] w fun e w' => e = .returned (.string (ans s t.data.toList).1) ∧ Own w0 [] w' [rtT g (ans s t.data.toList).2, R] := by
 unfold ans
 show LineC w0 R g s t (cutAt 32 t.data.toList) w
 obtain ⟨ws, hw⟩ : ∃ ws, cutAt 32 t.data.toList = ws := ⟨_, rfl⟩
 rw [hw]
 cases ws with
 | nil => exact absurd hw (cutAt_ne _ _)
 | cons x r =>
   by_cases h1 : x = wWrite
   · subst h1; exact rw_write hz hw ho
   by_cases h2 : x = wSend
   · subst h2; exact rw_send hf hz hw ho
   by_cases h3 : x = wCome
   · subst h3; exact rw_come hf hz hw ho
   by_cases h4 : x = wLose
   · subst h4; exact rw_lose hz hw ho
   by_cases h5 : x = wTwice
   · subst h5; exact rw_twice hz hw ho
   by_cases h6 : x = wVarint
   · subst h6; exact rw_varint hz hw ho
   by_cases h7 : x = wRead
   · subst h7; exact rw_read hz hw ho
   by_cases h8 : x = wNeed
   · subst h8; exact rw_need hz hw ho
   by_cases h9 : x = wCount
   · subst h9; exact rw_count hz hw ho
   have hm : ¬ (manyOf x).isSome = true := by
    unfold manyOf
    rw [if_neg (by rintro (h | h | h | h | h | h) <;> contradiction), if_neg (by rintro (h | h) <;> contradiction), if_neg h9]
    decide
   unfold LineC
   rw [ansW_no (parse_none hm)]
   exact rl_other w0 R g s t x r hm hw hz w ho
end
def shut (L : List (List UInt8)) : List (List UInt8) := if L.getLast? = some [] then L.dropLast else L
theorem shut_cons (x : List UInt8) {L : List (List UInt8)} (h : L ≠ []) : shut (x :: L) = x :: shut L := by
 unfold shut
 cases L with
 | nil => exact absurd rfl h
 | cons y r =>
   rw [List.getLast?_cons_cons]
   split
   · rfl
   · rfl
theorem free_or (c : UInt8) : ∀ l : List UInt8, free c l ∨ ∃ p r, l = p ++ c :: r ∧ free c p
 | [] => Or.inl (fun b hb => by simp at hb)
 | b :: l => by
   by_cases hb : b = c
   · exact Or.inr ⟨[], l, by rw [hb]; rfl, fun b hb => by simp at hb⟩
   · rcases free_or c l with h | ⟨p, r, rfl, h⟩
     · refine Or.inl (fun a ha => ?_)
       rcases List.mem_cons.1 ha with rfl | ha
       · exact hb
       · exact h a ha
     · refine Or.inr ⟨b :: p, r, rfl, fun a ha => ?_⟩
       rcases List.mem_cons.1 ha with rfl | ha
       · exact hb
       · exact h a ha
theorem lines_free : ∀ {l : List UInt8}, free 10 l → l ≠ [] → linesOf l = [l]
 | [], _, h => absurd rfl h
 | [b], hf, _ => by
   rw [linesOf, if_neg (hf b (by simp))]
   rfl
 | b :: c :: r, hf, _ => by
   have ih := lines_free (l := c :: r) (fun x hx => hf x (by simp [hx])) (by simp)
   rw [linesOf, if_neg (hf b (by simp)), ih]
theorem trim_free {l : List UInt8} (h : free 10 l) : trim l = l := by
 unfold trim Lib.trimSuffix Lib.hasSuffix
 rw [if_neg]
 intro e
 rw [List.isSuffixOf_iff_suffix] at e
 obtain ⟨p, hp⟩ := e
 exact h 10 (by rw [← hp]; simp) rfl
theorem cut_lines : ∀ (n : Nat) (l : List UInt8), l.length ≤ n → (linesOf l).map trim = shut (cutAt 10 l)
 | n, l, hl => by
   rcases free_or 10 l with h | ⟨p, r, rfl, h⟩
   · rw [cutAt_free h]
     cases l with
     | nil => rfl
     | cons b l =>
       rw [lines_free h (by simp)]
       show [trim (b :: l)] = shut [b :: l]
       rw [trim_free h]
       unfold shut
       rw [if_neg (by simp)]
   · rw [List.length_append, List.length_cons] at hl
     match n, hl with
     | n + 1, hl =>
       have ih := cut_lines n r (by omega)
       rw [lines_one r h, cutAt_app r h, List.map_cons, trim_end, ih, shut_cons _ (cutAt_ne _ _)]
theorem cut_shape (l : List UInt8) : ∃ (pre : List (List UInt8)) (z : List UInt8), cutAt 10 l = pre ++ [z] ∧ ((z = [] ∧ (linesOf l).map trim = pre) ∨ (z ≠ [] ∧ (linesOf l).map trim = pre ++ [z])) := by
 have hn := cutAt_ne 10 l
 have hc := cut_lines l.length l (Nat.le_refl _)
 refine ⟨(cutAt 10 l).dropLast, (cutAt 10 l).getLast hn, (List.dropLast_concat_getLast hn).symm, ?_⟩
 have hg : (cutAt 10 l).getLast? = some ((cutAt 10 l).getLast hn) := List.getLast?_eq_some_getLast hn
 by_cases hz : (cutAt 10 l).getLast hn = []
 · refine Or.inl ⟨hz, ?_⟩
   rw [hc]
   unfold shut
   rw [hg, hz, if_pos rfl]
 · refine Or.inr ⟨hz, ?_⟩
   rw [hc, List.dropLast_concat_getLast hn]
   unfold shut
   rw [hg, if_neg (fun e => hz (Option.some.inj e))]
noncomputable def upS (L : List (List UInt8)) (i : Nat) : TkS := (after (L.take i)).1
noncomputable def upF (L : List (List UInt8)) (i : Nat) : ByteArray := ⟨(after (L.take i)).2.toArray⟩
def lnAt (L : List (List UInt8)) (i : Nat) : List UInt8 := trim (L.getD i [])
theorem up_step {L : List (List UInt8)} {i : Nat} (hi : i < L.length) : upS L (i + 1) = (ans (upS L i) (lnAt L i)).2 ∧ upF L (i + 1) = upF L i ++ (ans (upS L i) (lnAt L i)).1 ++ ⟨#[10]⟩ := by
 have e : L.take (i + 1) = L.take i ++ [L.getD i []] := by
  rw [List.take_succ_eq_append_getElem hi]
  simp [List.getD, List.getElem?_eq_getElem hi]
 unfold upS upF lnAt
 rw [e, after_snoc]
 refine ⟨rfl, ?_⟩
 apply ByteArray.ext
 apply Array.ext'
 simp [ByteArray.data_append]
theorem up_all (L : List (List UInt8)) : upF L L.length = ⟨(after L).2.toArray⟩ := by
 unfold upF
 rw [List.take_length]
theorem ln_few {L : List (List UInt8)} (h : L.flatten.length ≤ 3000) (i : Nat) : (lnAt L i).length ≤ 3000 := by
 unfold lnAt
 have h1 := trim_len (L.getD i [])
 by_cases hi : i < L.length
 · have h2 : L.getD i [] ∈ L := by simp [List.getD, List.getElem?_eq_getElem hi]
   have h3 := mem_flat h2
   omega
 · have e : L.getD i [] = [] := by simp [List.getD, List.getElem?_eq_none (by omega : L.length ≤ i)]
   rw [e] at h1 ⊢
   exact Nat.le_trans h1 (by decide)
theorem ln_map {L : List (List UInt8)} {i : Nat} (hi : i < L.length) : (L.map trim)[i]? = some (lnAt L i) := by
 unfold lnAt
 rw [List.getElem?_map]
 simp [List.getD, List.getElem?_eq_getElem hi]
theorem rtalk_ok {w : World} {S : List Nat} {g : Nat} {s : TkS} (h : (rtT g s).is w S) : EnOk s.e0 ∧ EnOk s.e1 ∧ s.L.length ≤ 40 := by
 obtain ⟨g0, g1, ok, ho⟩ := rtT_open h
 obtain ⟨S2, hS2, -⟩ := ho.at_ 1 rfl
 obtain ⟨S3, hS3, -⟩ := ho.at_ 2 rfl
 obtain ⟨q2, hq2⟩ := rnT_open hS2
 obtain ⟨q3, hq3⟩ := rnT_open hS3
 exact ⟨hq2.ok, hq3.ok, ok.1⟩
theorem swap2 {w0 w : World} {a b : Thing} (h : Own w0 [] w [a, b]) : Own w0 [] w [b, a] := h.pick [1, 0] (by decide) (fun i t hi => by
 match i, hi with
 | 0, hi => exact ⟨1, rfl, hi⟩
 | 1, hi => exact ⟨0, rfl, hi⟩
 | i + 2, hi => simp at hi)
theorem cut_at (t : ByteArray) (ht : t.size ≤ 3000) : ∃ (pre : List (List UInt8)) (z : List UInt8), ((z = [] ∧ (linesOf t.data.toList).map trim = pre) ∨ (z ≠ [] ∧ (linesOf t.data.toList).map trim = pre ++ [z])) ∧ ∀ w : World,
  Calls Tryz.prog 37 #[.string t, .int .u8 10] w fun e w' => ∃ q cp, e = .returned (.slice (some ⟨q, 0, none⟩) (pre.length + 1) cp) ∧ Lst w' 9 1 (.slice (some ⟨q, 0, none⟩) (pre.length + 1) cp) (wrows (pre ++ [z])) ∧ w.heap.size ≤ q ∧ Since w w' := by
 obtain ⟨pre, z, h1, h2⟩ := cut_shape t.data.toList
 refine ⟨pre, z, h2, fun w => ?_⟩
 have h := rcut t 10 w (by omega)
 rw [h1, List.length_append, List.length_singleton] at h
 exact h
end Go.Proofs.YtmfbaijbigodkaaGreatDoor
