/- Contracts and plain laws that the claim leans on, part 8 of 8: each part has its own word. No condition beside theirs. -/
import Derived.Test.YtmfbaijbigodkaaGreatDoorBase
import Derived.Test.YtmfbaijbigodkaaGreatDoorOnly
import Derived.Test.YtmfbaijbigodkaaGreatDoorMay
import Derived.Test.YtmfbaijbigodkaaGreatDoorCredit
import Derived.Test.YtmfbaijbigodkaaGreatDoorQG
import Derived.ChangeMade
import Derived.Lib.ItoaLen
/-! The session that RunBegins tells by itself, answered line by line in plain words; and the session of RunTwice. No program here. -/
namespace Go.Proofs.YtmfbaijbigodkaaGreatDoor
open Go.RowKit Go.Shelf
set_option linter.unusedVariables false

def hello : ByteArray := ⟨#[104, 101, 108, 108, 111]⟩
def q0 : EnS := { EnS.new 20 with data := hello }
theorem q0_eq : (EnS.new 20).write hello = q0 := (new_write (n := 20) (d := hello) (by decide)).1
theorem q0_ok : EnOk q0 := by rw [← q0_eq]; exact (EnOk.new (by decide) (by decide)).write hello
/-- who took it -/
noncomputable def r0 : EnS := (EnS.new 20).take q0.packet
theorem r0_eq : r0 = (EnS.new 20).pkt 0 q0.frames := (first_take q0_ok rfl rfl rfl).2
theorem r0_ok : (EnS.new 20).takeE q0.packet = 0 := by
  rw [(first_take q0_ok rfl rfl rfl).1]
  decide
theorem r0_he : r0.readS 2 = ⟨#[104, 101]⟩ := by rw [r0_eq]; decide
theorem r0_llo : (r0.read 2).readS 9 = ⟨#[108, 108, 111]⟩ := by rw [r0_eq]; decide
theorem nothing : (EnS.new 20).readS 9 = ⟨#[]⟩ ∧ (EnS.new 20).read 9 = EnS.new 20 := ⟨by decide, by rfl⟩
def f1 : TkS := ⟨[], q0, EnS.new 20⟩
def f2 : TkS := ⟨[⟨1, ⟨q0.packet.toArray⟩⟩], q0.make, EnS.new 20⟩
noncomputable def f3 : TkS := ⟨[], q0.make, r0⟩
noncomputable def f4 : TkS := ⟨[], q0.make, r0.read 2⟩
noncomputable def f5 : TkS := ⟨[], q0.make, (r0.read 2).read 9⟩
theorem itoa_small {n : Nat} (h : n < 10) : Lib.itoa (n : Int) = [UInt8.ofNat (48 + n)] := by rw [Lib.itoa_nonneg, dd_small h]
theorem itoa_two {n : Nat} (h : 10 ≤ n) (h2 : n < 100) : Lib.itoa (n : Int) = [UInt8.ofNat (48 + n / 10), UInt8.ofNat (48 + n % 10)] := by
  rw [Lib.itoa_nonneg, dd_big (by omega), dd_small (by omega)]
  rfl
theorem a1 : ans (TkS.new 20) [119, 114, 105, 116, 101, 32, 48, 32, 104, 101, 108, 108, 111] = (⟨#[111, 107]⟩, f1) := ans_ok (x := wWrite) (ns := [0]) (d := [104, 101, 108, 108, 111]) (by rfl) (by
  show (bOk, (TkS.new 20).writeE 0 hello, (TkS.new 20).write 0 hello) = _
  have e1 : (TkS.new 20).write 0 hello = f1 := by
    show TkS.mk [] ((EnS.new 20).write hello) (EnS.new 20) = _
    rw [q0_eq]; rfl
  rw [e1]; rfl)
theorem a2 : ans (f1) [115, 101, 110, 100, 32, 48] = (⟨#[111, 107]⟩, f2) := ans_ok (x := wSend) (ns := [0]) (d := []) (by rfl) (by
  rfl)
theorem a3 : ans (f2) [99, 111, 117, 110, 116] = (⟨#[49]⟩, f2) := ans_ok (x := wCount) (ns := []) (d := []) (by rfl) (by
  show ((⟨(Lib.itoa ((1 : Nat) : Int)).toArray⟩ : ByteArray), (0 : Int), f2) = _
  rw [itoa_small (by decide)]; rfl)
theorem a4 : ans (f2) [114, 101, 97, 100, 32, 49, 32, 57] = (⟨#[45]⟩, f2) := ans_ok (x := wRead) (ns := [1, 9]) (d := []) (by rfl) (by
  show ((if (EnS.new 20).readS 9 = ⟨#[]⟩ then bDash else (EnS.new 20).readS 9 : ByteArray), (0 : Int), TkS.mk f2.L f2.e0 ((EnS.new 20).read 9)) = _
  rw [nothing.1, nothing.2, if_pos rfl]; rfl)
theorem a5 : ans (f2) [99, 111, 109, 101, 32, 48] = (⟨#[111, 107]⟩, f3) := ans_ok (x := wCome) (ns := [0]) (d := []) (by rfl) (by
  show (bOk, (EnS.new 20).takeE (ByteArray.mk q0.packet.toArray).data.toList, TkS.mk [] q0.make ((EnS.new 20).take (ByteArray.mk q0.packet.toArray).data.toList)) = _
  rw [bytes_of, r0_ok]; rfl)
theorem a6 : ans f3 [102, 108, 121] = (⟨#[98, 97, 100]⟩, f3) := ans_bad (by rfl)
theorem a7 : ans (f3) [114, 101, 97, 100, 32, 49, 32, 50] = (⟨#[104, 101]⟩, f4) := ans_ok (x := wRead) (ns := [1, 2]) (d := []) (by rfl) (by
  show ((if r0.readS 2 = ⟨#[]⟩ then bDash else r0.readS 2 : ByteArray), (0 : Int), f4) = _
  rw [r0_he]; rfl)
theorem a8 : ans (f4) [114, 101, 97, 100, 32, 49, 32, 57] = (⟨#[108, 108, 111]⟩, f5) := ans_ok (x := wRead) (ns := [1, 9]) (d := []) (by rfl) (by
  show ((if (r0.read 2).readS 9 = ⟨#[]⟩ then bDash else (r0.read 2).readS 9 : ByteArray), (0 : Int), f5) = _
  rw [r0_llo]; rfl)
theorem a9 : ans (f5) [118, 97, 114, 105, 110, 116, 32, 51, 48, 48] = (⟨#[54, 53, 32, 52, 52]⟩, f5) := ans_ok (x := wVarint) (ns := [300]) (d := []) (by rfl) (by
  show ((⟨(tells (vbytes 300)).toArray⟩ : ByteArray), (0 : Int), f5) = _
  have e : vbytes 300 = [65, 44] := by decide
  have e2 : tells [65, 44] = [54, 53, 32, 52, 52] := by
    unfold tells
    rw [List.map_cons, List.map_cons, List.map_nil, Lib.join_cons]
    have h1 : Lib.itoa (((65 : UInt8).toNat : Nat) : Int) = [54, 53] := itoa_two (by decide) (by decide)
    have h2 : Lib.itoa (((44 : UInt8).toNat : Nat) : Int) = [52, 52] := itoa_two (by decide) (by decide)
    rw [h1, h2]
    rfl
  rw [e, e2])
theorem a10 : ans (f5) [110, 101, 101, 100, 32, 57, 32, 51] = (⟨#[49]⟩, f5) := ans_ok (x := wNeed) (ns := [9, 3]) (d := []) (by rfl) (by
  show ((⟨(Lib.itoa (needV 9 3)).toArray⟩ : ByteArray), needE 9 3, f5) = _
  have e : needV 9 3 = ((1 : Nat) : Int) := by decide
  have e2 : needE 9 3 = 0 := by decide
  rw [e, e2, itoa_small (by decide)]; rfl)
theorem a11 : ans f5 [110, 101, 101, 100, 32, 51, 32, 57] = (⟨#[69, 114, 114, 82, 97, 110, 103, 101]⟩, f5) := ans_no (x := wNeed) (ns := [3, 9]) (d := []) (X := ⟨(Lib.itoa (needV 3 9)).toArray⟩) (e := 1) (by decide) (by rfl) (by
  show ((⟨(Lib.itoa (needV 3 9)).toArray⟩ : ByteArray), needE 3 9, f5) = _
  have e2 : needE 3 9 = 1 := by decide
  rw [e2])
theorem a12 : ans f5 [99, 111, 109, 101, 32, 48] = (⟨#[69, 114, 114, 82, 97, 110, 103, 101]⟩, f5) := ans_no (x := wCome) (ns := [0]) (d := []) (X := bOk) (e := 1) (by decide) (by rfl) (by rfl)
def bFact : ByteArray := ⟨#[119, 114, 105, 116, 101, 32, 48, 32, 104, 101, 108, 108, 111, 10, 115, 101, 110, 100, 32, 48, 10, 99, 111, 117, 110, 116, 10, 114, 101, 97, 100, 32, 49, 32, 57, 10, 99, 111, 109, 101, 32, 48, 10, 102, 108, 121, 10, 114, 101, 97, 100, 32, 49, 32, 50, 10, 114, 101, 97, 100, 32, 49, 32, 57, 10, 118, 97, 114, 105, 110, 116, 32, 51, 48, 48, 10, 110, 101, 101, 100, 32, 57, 32, 51, 10, 110, 101, 101, 100, 32, 51, 32, 57, 10, 99, 111, 109, 101, 32, 48, 10]⟩
def bTold : ByteArray := ⟨#[111, 107, 10, 111, 107, 10, 49, 10, 45, 10, 111, 107, 10, 98, 97, 100, 10, 104, 101, 10, 108, 108, 111, 10, 54, 53, 32, 52, 52, 10, 49, 10, 69, 114, 114, 82, 97, 110, 103, 101, 10, 69, 114, 114, 82, 97, 110, 103, 101, 10]⟩
theorem fact_lines : (linesOf bFact.data.toList).map trim = [[119, 114, 105, 116, 101, 32, 48, 32, 104, 101, 108, 108, 111], [115, 101, 110, 100, 32, 48], [99, 111, 117, 110, 116], [114, 101, 97, 100, 32, 49, 32, 57], [99, 111, 109, 101, 32, 48], [102, 108, 121], [114, 101, 97, 100, 32, 49, 32, 50], [114, 101, 97, 100, 32, 49, 32, 57], [118, 97, 114, 105, 110, 116, 32, 51, 48, 48], [110, 101, 101, 100, 32, 57, 32, 51], [110, 101, 101, 100, 32, 51, 32, 57], [99, 111, 109, 101, 32, 48]] := by rfl
theorem fact_told : runB bFact = bTold := by
  unfold runB
  rw [if_neg (by decide)]
  unfold after
  rw [fact_lines]
  have e : anss (TkS.new 20) [[119, 114, 105, 116, 101, 32, 48, 32, 104, 101, 108, 108, 111], [115, 101, 110, 100, 32, 48], [99, 111, 117, 110, 116], [114, 101, 97, 100, 32, 49, 32, 57], [99, 111, 109, 101, 32, 48], [102, 108, 121], [114, 101, 97, 100, 32, 49, 32, 50], [114, 101, 97, 100, 32, 49, 32, 57], [118, 97, 114, 105, 110, 116, 32, 51, 48, 48], [110, 101, 101, 100, 32, 57, 32, 51], [110, 101, 101, 100, 32, 51, 32, 57], [99, 111, 109, 101, 32, 48]] = bTold.data.toList := by
    rw [anss, a1, anss, a2, anss, a3, anss, a4, anss, a5, anss, a6, anss, a7, anss, a8, anss, a9, anss, a10, anss, a11, anss, a12, anss]
    rfl
  show (⟨(anss (TkS.new 20) _).toArray⟩ : ByteArray) = _
  rw [e]
end Go.Proofs.YtmfbaijbigodkaaGreatDoor

/-! What the rows' lists give a walk of a session, and a world that meets them: eleven listed variables, unicode/utf8.first by the form's constant. -/
namespace Go.Proofs.YtmfbaijbigodkaaGreatDoor
open Go.ChangeShapes Go.WideShapes Go.ChangeAt Go.RowKit
set_option linter.unusedVariables false

set_option maxRecDepth 100000 in
theorem Tryz.nameErrno (u : TypeId) (h : Tryz.prog.typeName? 3 u = some "wanderwire/api.Errno") : u = 84 := by
  have hall : (List.range 332).all (fun u => Tryz.prog.typeName? 3 u != some "wanderwire/api.Errno" || u == 84) = true := by kernel_rfl
  rcases Nat.lt_or_ge u 332 with hu | hu
  · have := List.all_eq_true.1 hall u (List.mem_range.2 hu)
    rw [h] at this
    simpa using this
  · exfalso
    have hu' : ¬ u < Tryz.prog.types.size := fun hx => absurd (show u < 332 from Tryz.size ▸ hx) (Nat.not_lt.2 hu)
    unfold Program.typeName? at h
    cases hi : Tryz.prog.info? u with
    | none => rw [hi] at h; cases h
    | some i =>
      have hb := Tables.info?_beyond hu' hi
      rw [hi] at h
      cases hd : i.desc <;> simp only [hd, TypeDesc.tableOnly] at h hb <;> try cases hb
      all_goals try cases h
      rename_i e
      simp only [Option.map_eq_some_iff] at h
      obtain ⟨n, _, hn⟩ := h
      have hs := congrArg (fun z : String => z.toList.head?) hn
      simp only [String.toList_append, List.head?_append] at hs
      have hl : "*".toList.head? = some (Char.ofNat 42) := by decide
      have hr : "wanderwire/api.Errno".toList.head? = some (Char.ofNat 119) := by decide
      rw [hl, hr] at hs
      exact absurd hs (by simp)
theorem iface_cell {W : World} {n : String} {nm : String} {d : DataW Unit} {r : List (String × DataW Unit)} {g : Nat} {ti : TypeId} {ms : Array (String × TypeId)} (h : laidMet Tryz.prog ((n, .iface nm d) :: r) W)
    (hg : Tryz.prog.globalNamed n = some g) (ht : (Tryz.prog.globals[g]?).map (·.type) = some ti) (hi : Tryz.prog.underlying ti = some (.interface ms)) : ∃ u v, W.cell? ⟨g, 0, none⟩ = some (.iface u v) := by
  obtain ⟨ps, ⟨g0, t0, cs0, f0, p0, q0, hg0, ht0, hv0, hd0, _, _⟩, _, _⟩ := h
  obtain rfl := Option.some.inj (hg.symm.trans hg0)
  obtain rfl := Option.some.inj (ht.symm.trans ht0)
  obtain ⟨l0⟩ := cs0
  obtain ⟨f1, u, v, hl, _, _⟩ := iface_of_trod hi hd0
  have hl' : l0 = [.iface u v] := hl
  subst hl'
  exact ⟨u, v, by simpa using World.var?_cell hg0 hv0 0⟩
theorem Tryz.unreadName : Tryz.prog.globalNamed "wanderwire/run.unread" = some 1 := by kernel_rfl
theorem Tryz.unreadType : (Tryz.prog.globals[1]?).map (·.type) = some 175 := by kernel_rfl
set_option maxRecDepth 100000 in
theorem unread_cell {W : World} {r : List (String × DataW Unit)} (h : laidMet Tryz.prog (("wanderwire/run.unread", Rows.laid_wanderwire_run_unread) :: r) W) : W.cell? ⟨1, 0, none⟩ = some (.iface 84 (.int .i64 2)) := by
  obtain ⟨ps, ⟨g0, t0, cs0, f0, p0, q0, hg0, ht0, hv0, hd0, _, e0⟩, _, hrows⟩ := h
  obtain rfl := Option.some.inj (Tryz.unreadName.symm.trans hg0)
  obtain rfl := Option.some.inj (Tryz.unreadType.symm.trans ht0)
  obtain ⟨xs, m, _, hx, hl, hlen, hf⟩ := DataW.trod_struct Tryz.underlying175 hd0
  have hn : xs.length = 1 := hlen
  obtain ⟨y, rfl⟩ := List.length_eq_one_iff.1 hn
  have hc1 : Tryz.prog.cellsOf 175 = 1 := by kernel_rfl
  have hc2 : Tryz.prog.cellsOf 27 = 1 := by kernel_rfl
  rw [hc1] at hl
  obtain ⟨l0⟩ := cs0
  obtain ⟨c, hc⟩ := List.length_eq_one_iff.1 hl
  have hl' : l0 = [c] := hc
  subst hl'
  simp only [Rows.laid_wanderwire_run_unread, List.map_cons, List.map_nil, Prod.mk.injEq, DataW.agg.injEq, List.cons.injEq, and_true] at hx
  obtain ⟨hy, _⟩ := hx
  have t0 := hf 0 _ rfl
  have t1 : DataW.trod (fun _ => ()) Tryz.prog W 0 (fun _ => true) false m 27 [c] = some (.iface "wanderwire/api.Errno" (.lit (.int .i64 2)), y.2) := by
    rw [hy]
    simpa [hc2] using t0
  obtain ⟨f1, u, v, hcu, hnm, hin⟩ := iface_of_trod Tryz.underlying27 t1
  obtain rfl := Tryz.nameErrno u hnm
  obtain ⟨n0, hce, hd, _⟩ := DataW.trod_int (k := .i64) Tryz.underlying84 hin
  have hn0 : n0 = 2 := by
    injection hd with h1 _
    injection h1 with h1
    injection h1 with _ h1
    exact h1.symm
  subst hn0
  have hcc : W.cell? ⟨1, 0, none⟩ = some (.iface 84 v) := by
    have := World.var?_cell hg0 hv0 0
    injection hcu with h1 _
    rw [h1] at this
    simpa using this
  have ok := (hrows 1 0 (by rw [e0]; simp [MemPlace.row])).2 _ _ hcc
  have hv : v = .int .i64 2 := by
    unfold Value.okWide at ok
    simp only [Tryz.underlying84] at ok
    unfold Cell.okWide at ok
    cases v <;> simp [Value.cells, Cell.ok, Tryz.underlying84] at ok hce
    · obtain ⟨rfl, rfl⟩ := hce
      rfl
  rw [hcc, hv]
theorem laid_r {W : World} (h : laidMetH Tryz.prog [("math/bits.deBruijn32tab", Rows.laid_math_bits_deBruijn32tab), ("math/bits.deBruijn64tab", Rows.laid_math_bits_deBruijn64tab), ("internal/strconv.uint64pow10", Rows.laid_internal_strconv_uint64pow10), ("unicode/utf8.acceptRanges", Rows.laid_unicode_utf8_acceptRanges), ("errors.errorType", Rows.laid_errors_errorType), ("strconv.ErrRange", Rows.laid_strconv_ErrRange), ("strconv.ErrSyntax", Rows.laid_strconv_ErrSyntax), ("wanderwire/varint.kinds", Rows.laid_wanderwire_varint_kinds), ("wanderwire/frame.counts", Rows.laid_wanderwire_frame_counts), ("wanderwire/run.unread", Rows.laid_wanderwire_run_unread), ("unicode/utf8.first", Rows.laid_unicode_utf8_first)] W) : RTabs W := by
  have h' : laidMet Tryz.prog [("math/bits.deBruijn32tab", Rows.laid_math_bits_deBruijn32tab), ("math/bits.deBruijn64tab", Rows.laid_math_bits_deBruijn64tab), ("internal/strconv.uint64pow10", Rows.laid_internal_strconv_uint64pow10), ("unicode/utf8.acceptRanges", Rows.laid_unicode_utf8_acceptRanges), ("strconv.ErrRange", Rows.laid_strconv_ErrRange), ("strconv.ErrSyntax", Rows.laid_strconv_ErrSyntax), ("wanderwire/varint.kinds", Rows.laid_wanderwire_varint_kinds), ("wanderwire/frame.counts", Rows.laid_wanderwire_frame_counts), ("wanderwire/run.unread", Rows.laid_wanderwire_run_unread), ("unicode/utf8.first", Rows.laid_unicode_utf8_first)] W ∧ handlesMet Tryz.prog [("errors.errorType", Rows.laid_errors_errorType)] W := h
  have h1 := h'.1.tail.tail.tail.tail
  obtain ⟨ps, hv, _⟩ := h1.tail.tail
  obtain ⟨hk, q, hq⟩ := ktab_of_vars hv
  exact ⟨etok_of_handles h'.2, hk, ctab_of_vars hq, ptab_of_head h'.1.tail.tail, ⟨iface_cell h1.tail (g := 7) (ti := 27) (by kernel_rfl) (by kernel_rfl) Tryz.underlying27, iface_cell h1 (g := 8) (ti := 27) (by kernel_rfl) (by kernel_rfl) Tryz.underlying27⟩, unread_cell h1.tail.tail.tail.tail⟩
def errText : DataW Unit → ByteArray
  | .iface _ (.ptr (.agg [.lit (.string l)])) => ⟨l.toArray⟩
  | _ => ⟨#[]⟩
def rowCells : DataW Unit → List Value
  | .agg l => litCells l
  | _ => []
def tabCells2 : DataW Unit → Array Value
  | .agg l => (l.map rowCells).flatten.toArray
  | _ => #[]
/-- A world that meets the list: the settled one, the listed variables' cells laid, each error in a block of its own. -/
noncomputable def laidWorld7 (os : Os) : World :=
  let w0 := World.holding Tryz.prog os ⟨#[], #[], []⟩
  { w0 with heap := ((w0.heap
    |>.modify 0 (fun
      | .cells _ t frozen => .cells #[.iface 216 (.agg #[.pointer (some ⟨12, 27, none⟩)])] t frozen
      | o => o)
    |>.modify 1 (fun
      | .cells _ t frozen => .cells #[.iface 84 (.int .i64 2)] t frozen
      | o => o)
    |>.modify 5 (fun
      | .cells _ t frozen => .cells (tabCells Rows.laid_unicode_utf8_first) t frozen
      | o => o)
    |>.modify 6 (fun
      | .cells _ t frozen => .cells (tabCells2 Rows.laid_unicode_utf8_acceptRanges) t frozen
      | o => o)
    |>.modify 10 (fun
      | .cells _ t frozen => .cells (tabCells Rows.laid_math_bits_deBruijn32tab) t frozen
      | o => o)
    |>.modify 11 (fun
      | .cells _ t frozen => .cells (tabCells Rows.laid_math_bits_deBruijn64tab) t frozen
      | o => o)
    |>.modify 9 (fun
      | .cells _ t frozen => .cells (tabCells Rows.laid_internal_strconv_uint64pow10) t frozen
      | o => o)
    |>.modify 8 (fun
      | .cells _ t frozen => .cells #[.iface 301 (.pointer (some ⟨w0.heap.size, 0, none⟩))] t frozen
      | o => o)
    |>.modify 7 (fun
      | .cells _ t frozen => .cells #[.iface 301 (.pointer (some ⟨w0.heap.size + 1, 0, none⟩))] t frozen
      | o => o)
    |>.modify 2 (fun
      | .cells _ t frozen => .cells #[.int .i64 1, .int .i64 64, .int .i64 2, .int .i64 16384, .int .i64 4, .int .i64 1073741824] t frozen
      | o => o)
    |>.modify 3 (fun
      | .cells _ t frozen => .cells #[.int .i64 0, .int .i64 0, .int .i64 0, .int .i64 1, .int .i64 1, .int .i64 1, .int .i64 1, .int .i64 2, .int .i64 1] t frozen
      | o => o)).push (.cells #[.string (errText Rows.laid_strconv_ErrRange)] 303 (0, 0))).push (.cells #[.string (errText Rows.laid_strconv_ErrSyntax)] 303 (0, 0))
  }
set_option maxRecDepth 100000 in
theorem laidMet_r (os : Os) (args : Array Value) : laidMetH Tryz.prog [("math/bits.deBruijn32tab", Rows.laid_math_bits_deBruijn32tab), ("math/bits.deBruijn64tab", Rows.laid_math_bits_deBruijn64tab), ("internal/strconv.uint64pow10", Rows.laid_internal_strconv_uint64pow10), ("unicode/utf8.acceptRanges", Rows.laid_unicode_utf8_acceptRanges), ("errors.errorType", Rows.laid_errors_errorType), ("strconv.ErrRange", Rows.laid_strconv_ErrRange), ("strconv.ErrSyntax", Rows.laid_strconv_ErrSyntax), ("wanderwire/varint.kinds", Rows.laid_wanderwire_varint_kinds), ("wanderwire/frame.counts", Rows.laid_wanderwire_frame_counts), ("wanderwire/run.unread", Rows.laid_wanderwire_run_unread), ("unicode/utf8.first", Rows.laid_unicode_utf8_first)] ((laidWorld7 os).forCall (fun _ _ => 0) ⟨#[], args, []⟩).memory :=
  laidMetH_of_parts (laidMet_of_run' 8 (by kernel_rfl) (by kernel_rfl)) (by kernel_rfl)
end Go.Proofs.YtmfbaijbigodkaaGreatDoor

/-! The session that tells it once, answered line by line in plain words: what was sent, doubled, and came however often is read once. No program here. -/
namespace Go.Proofs.YtmfbaijbigodkaaGreatDoor
open Go.RowKit Go.Shelf
set_option linter.unusedVariables false

instance (c : UInt8) (l : List UInt8) : Decidable (free c l) := inferInstanceAs (Decidable (∀ b ∈ l, b ≠ c))
def ltrs : ByteArray := ⟨#[97, 98, 99, 100, 101, 102, 103, 104, 105]⟩
def g0 : EnS := { EnS.new 20 with data := ltrs }
theorem g0_eq : (EnS.new 20).write ltrs = g0 := (new_write (n := 20) (d := ltrs) (by decide)).1
theorem g0_ok : EnOk g0 := by rw [← g0_eq]; exact (EnOk.new (by decide) (by decide)).write ltrs
theorem g0_pair : Pair g0 (EnS.new 20) := by rw [← g0_eq]; exact (Pair.new (by decide) (by decide)).write ltrs
/-- the packet, and who took it -/
def pk0 : Let := ⟨0, ⟨g0.packet.toArray⟩⟩
noncomputable def k0 : EnS := (EnS.new 20).take g0.packet
theorem k0_eq : k0 = (EnS.new 20).pkt 0 g0.frames := (first_take g0_ok rfl rfl rfl).2
theorem k0_ok : (EnS.new 20).takeE g0.packet = 0 := by
  rw [(first_take g0_ok rfl rfl rfl).1]
  decide
theorem k0_again : k0.takeE g0.packet = 0 ∧ k0.take g0.packet = k0 := again g0_pair (by decide) (by decide)
/-- the states: k times under way -/
def u0 : TkS := ⟨[], EnS.new 20, g0⟩
noncomputable def uT (k : Nat) : TkS := ⟨List.replicate k pk0, EnS.new 20, g0.make⟩
noncomputable def uC (k : Nat) : TkS := ⟨List.replicate k pk0, k0, g0.make⟩
def lnW : List UInt8 := [119, 114, 105, 116, 101, 32, 49, 32, 97, 98, 99, 100, 101, 102, 103, 104, 105]
def lnS : List UInt8 := [115, 101, 110, 100, 32, 49]
def lnT : List UInt8 := [116, 119, 105, 99, 101, 32, 48]
def lnC : List UInt8 := [99, 111, 109, 101, 32, 48]
def lnR (n : Nat) : List UInt8 := [114, 101, 97, 100, 32, 48, 32, UInt8.ofNat (48 + n)]
theorem b1 : ans (TkS.new 20) lnW = (bOk, u0) := ans_ok (x := wWrite) (ns := [1]) (d := [97, 98, 99, 100, 101, 102, 103, 104, 105]) (by rfl) (by
  show (bOk, (TkS.new 20).writeE 1 ltrs, (TkS.new 20).write 1 ltrs) = _
  have e1 : (TkS.new 20).write 1 ltrs = u0 := by
    show TkS.mk [] (EnS.new 20) ((EnS.new 20).write ltrs) = _
    rw [g0_eq]; rfl
  rw [e1]; rfl)
theorem b2 : ans u0 lnS = (bOk, uT 1) := ans_ok (x := wSend) (ns := [1]) (d := []) (by rfl) (by rfl)
theorem b3 {k : Nat} (h1 : 1 ≤ k) (h : k < 40) : ans (uT k) lnT = (bOk, uT (k + 1)) := ans_ok (x := wTwice) (ns := [0]) (d := []) (by rfl) (by
  show (bOk, twiceE (List.replicate k pk0) 0, (⟨twiceL (List.replicate k pk0) 0, EnS.new 20, g0.make⟩ : TkS)) = _
  have hb : isB (List.replicate k pk0) 0 = true := by unfold isB; simp; omega
  have e : twiceE (List.replicate k pk0) 0 = 0 := by
    unfold twiceE
    rw [if_pos hb, List.length_replicate, if_neg (by omega)]
  have e2 : twiceL (List.replicate k pk0) 0 = List.replicate (k + 1) pk0 := by
    unfold twiceL
    rw [if_pos e, List.replicate_succ']
    congr 1
    obtain ⟨j, rfl⟩ : ∃ j, k = j + 1 := ⟨k - 1, by omega⟩
    rfl
  rw [e, e2]; rfl)
theorem giveD_rep {k : Nat} : giveD (List.replicate (k + 1) pk0) 0 = pk0 ∧ giveL (List.replicate (k + 1) pk0) 0 = List.replicate k pk0 ∧ isB (List.replicate (k + 1) pk0) 0 = true := by
  have hb : isB (List.replicate (k + 1) pk0) 0 = true := by unfold isB; simp
  refine ⟨?_, ?_, hb⟩
  · unfold giveD; rw [if_pos hb]; rfl
  · unfold giveL; rw [if_pos hb]; rfl
theorem b4 (k : Nat) : ans (uT (k + 1)) lnC = (bOk, uC k) := ans_ok (x := wCome) (ns := [0]) (d := []) (by rfl) (by
  show (bOk, (uT (k + 1)).comeE 0, (uT (k + 1)).come 0) = _
  obtain ⟨e1, e2, e3⟩ := giveD_rep (k := k)
  have h1 : (uT (k + 1)).comeE 0 = 0 := by
    unfold TkS.comeE
    show (if isB (List.replicate (k + 1) pk0) 0 = true then ((uT (k + 1)).e (giveD (List.replicate (k + 1) pk0) 0).too).takeE (giveD (List.replicate (k + 1) pk0) 0).b.data.toList else 1) = 0
    rw [if_pos e3, e1]
    show (EnS.new 20).takeE (ByteArray.mk g0.packet.toArray).data.toList = 0
    rw [bytes_of]; exact k0_ok
  have h2 : (uT (k + 1)).come 0 = uC k := by
    unfold TkS.come
    show (if isB (List.replicate (k + 1) pk0) 0 = true then { (uT (k + 1)).set (giveD (List.replicate (k + 1) pk0) 0).too (((uT (k + 1)).e (giveD (List.replicate (k + 1) pk0) 0).too).take (giveD (List.replicate (k + 1) pk0) 0).b.data.toList) with L := giveL (List.replicate (k + 1) pk0) 0 } else uT (k + 1)) = uC k
    rw [if_pos e3, e1, e2]
    show TkS.mk (List.replicate k pk0) ((EnS.new 20).take (ByteArray.mk g0.packet.toArray).data.toList) g0.make = _
    rw [bytes_of]; rfl
  rw [h1, h2])
theorem b5 (k : Nat) : ans (uC (k + 1)) lnC = (bOk, uC k) := ans_ok (x := wCome) (ns := [0]) (d := []) (by rfl) (by
  show (bOk, (uC (k + 1)).comeE 0, (uC (k + 1)).come 0) = _
  obtain ⟨e1, e2, e3⟩ := giveD_rep (k := k)
  have h1 : (uC (k + 1)).comeE 0 = 0 := by
    unfold TkS.comeE
    show (if isB (List.replicate (k + 1) pk0) 0 = true then ((uC (k + 1)).e (giveD (List.replicate (k + 1) pk0) 0).too).takeE (giveD (List.replicate (k + 1) pk0) 0).b.data.toList else 1) = 0
    rw [if_pos e3, e1]
    show k0.takeE (ByteArray.mk g0.packet.toArray).data.toList = 0
    rw [bytes_of]; exact k0_again.1
  have h2 : (uC (k + 1)).come 0 = uC k := by
    unfold TkS.come
    show (if isB (List.replicate (k + 1) pk0) 0 = true then { (uC (k + 1)).set (giveD (List.replicate (k + 1) pk0) 0).too (((uC (k + 1)).e (giveD (List.replicate (k + 1) pk0) 0).too).take (giveD (List.replicate (k + 1) pk0) 0).b.data.toList) with L := giveL (List.replicate (k + 1) pk0) 0 } else uC (k + 1)) = uC k
    rw [if_pos e3, e1, e2]
    show TkS.mk (List.replicate k pk0) (k0.take (ByteArray.mk g0.packet.toArray).data.toList) g0.make = _
    rw [bytes_of, k0_again.2]; rfl
  rw [h1, h2])
/-- what is left -/
def rest (n : Nat) : ByteArray := if n = 9 then ⟨#[45]⟩ else ltrs.extract n 9
noncomputable def v1 (n : Nat) : TkS := ⟨[], k0.read n, g0.make⟩
noncomputable def v2 (n : Nat) : TkS := ⟨[], (k0.read n).read 9, g0.make⟩
noncomputable def v3 (n : Nat) : TkS := ⟨[], ((k0.read n).read 9).read 9, g0.make⟩
theorem nine {P : Nat → Prop} (h : P 1 ∧ P 2 ∧ P 3 ∧ P 4 ∧ P 5 ∧ P 6 ∧ P 7 ∧ P 8 ∧ P 9) {n : Nat} (h1 : 1 ≤ n) (h9 : n ≤ 9) : P n := by
  have : n = 1 ∨ n = 2 ∨ n = 3 ∨ n = 4 ∨ n = 5 ∨ n = 6 ∨ n = 7 ∨ n = 8 ∨ n = 9 := by omega
  obtain ⟨a1, a2, a3, a4, a5, a6, a7, a8, a9⟩ := h
  rcases this with rfl | rfl | rfl | rfl | rfl | rfl | rfl | rfl | rfl <;> assumption
theorem lnR_parse {n : Nat} (h1 : 1 ≤ n) (h9 : n ≤ 9) : parse (cutAt 32 (lnR n)) = some (wRead, [0, n], []) := nine (P := fun n => parse (cutAt 32 (lnR n)) = some (wRead, [0, n], [])) ⟨rfl, rfl, rfl, rfl, rfl, rfl, rfl, rfl, rfl⟩ h1 h9
theorem k0_reads {n : Nat} (h1 : 1 ≤ n) (h9 : n ≤ 9) : k0.readS n = ltrs.extract 0 n ∧ ltrs.extract 0 n ≠ ⟨#[]⟩ ∧ (if (k0.read n).readS 9 = ⟨#[]⟩ then bDash else (k0.read n).readS 9) = rest n ∧ ((k0.read n).read 9).readS 9 = ⟨#[]⟩ :=
  nine (P := fun n => k0.readS n = ltrs.extract 0 n ∧ ltrs.extract 0 n ≠ ⟨#[]⟩ ∧ (if (k0.read n).readS 9 = ⟨#[]⟩ then bDash else (k0.read n).readS 9) = rest n ∧ ((k0.read n).read 9).readS 9 = ⟨#[]⟩) (by rw [k0_eq]; decide) h1 h9
theorem b6 {n : Nat} (h1 : 1 ≤ n) (h9 : n ≤ 9) : ans (uC 0) (lnR n) = (ltrs.extract 0 n, v1 n) := ans_ok (x := wRead) (ns := [0, n]) (d := []) (lnR_parse h1 h9) (by
  show ((if k0.readS n = ⟨#[]⟩ then bDash else k0.readS n : ByteArray), TkS.readE 0 n, TkS.mk [] (k0.read n) g0.make) = _
  obtain ⟨a1, a2, _, _⟩ := k0_reads h1 h9
  have e : TkS.readE 0 (n : Int) = 0 := by
    show (if whoB 0 = true then EnS.readE (n : Int) else 1) = 0
    rw [if_pos (by decide)]
    unfold EnS.readE
    rw [if_neg (by omega)]
  rw [a1, if_neg a2, e]; rfl)
theorem b7 {n : Nat} (h1 : 1 ≤ n) (h9 : n ≤ 9) : ans (v1 n) (lnR 9) = (rest n, v2 n) := ans_ok (x := wRead) (ns := [0, 9]) (d := []) rfl (by
  show ((if (k0.read n).readS 9 = ⟨#[]⟩ then bDash else (k0.read n).readS 9 : ByteArray), TkS.readE 0 9, TkS.mk [] ((k0.read n).read 9) g0.make) = _
  rw [(k0_reads h1 h9).2.2.1]; rfl)
theorem b8 {n : Nat} (h1 : 1 ≤ n) (h9 : n ≤ 9) : ans (v2 n) (lnR 9) = (⟨#[45]⟩, v3 n) := ans_ok (x := wRead) (ns := [0, 9]) (d := []) rfl (by
  show ((if ((k0.read n).read 9).readS 9 = ⟨#[]⟩ then bDash else ((k0.read n).read 9).readS 9 : ByteArray), TkS.readE 0 9, TkS.mk [] (((k0.read n).read 9).read 9) g0.make) = _
  rw [(k0_reads h1 h9).2.2.2, if_pos rfl]; rfl)
/-- the answers, each with its end -/
def oks (k : Nat) : List UInt8 := (List.replicate k [111, 107, 10]).flatten
theorem oks_succ (k : Nat) : oks (k + 1) = [111, 107, 10] ++ oks k := by unfold oks; rw [List.replicate_succ, List.flatten_cons]
theorem oks_app (j k : Nat) : oks (j + k) = oks j ++ oks k := by unfold oks; rw [← List.replicate_append_replicate, List.flatten_append]
theorem run_twice : ∀ (m k : Nat), k + m + 1 ≤ 40 → anss (uT (k + 1)) (List.replicate m lnT) = oks m ∧ behind (uT (k + 1)) (List.replicate m lnT) = uT (k + m + 1)
  | 0, k, h => ⟨rfl, rfl⟩
  | m + 1, k, h => by
    obtain ⟨i1, i2⟩ := run_twice m (k + 1) (by omega)
    rw [List.replicate_succ, anss, behind, b3 (by omega) (by omega)]
    refine ⟨?_, ?_⟩
    · show bOk.data.toList ++ 10 :: anss (uT (k + 1 + 1)) (List.replicate m lnT) = _
      rw [i1, oks_succ]; rfl
    · show behind (uT (k + 1 + 1)) (List.replicate m lnT) = _
      rw [i2]; congr 1; omega
theorem run_come : ∀ (m : Nat), anss (uC m) (List.replicate m lnC) = oks m ∧ behind (uC m) (List.replicate m lnC) = uC 0
  | 0 => ⟨rfl, rfl⟩
  | m + 1 => by
    obtain ⟨i1, i2⟩ := run_come m
    rw [List.replicate_succ, anss, behind, b5]
    exact ⟨by show bOk.data.toList ++ 10 :: anss (uC m) (List.replicate m lnC) = _; rw [i1, oks_succ]; rfl, i2⟩
/-- what is told -/
def told2 (m n : Nat) : List UInt8 := oks (3 + 2 * m) ++ ((ltrs.extract 0 n).data.toList ++ 10 :: ((rest n).data.toList ++ 10 :: [45, 10]))
def lines2 (m n : Nat) : List (List UInt8) := [lnW, lnS] ++ (List.replicate m lnT ++ (List.replicate (m + 1) lnC ++ [lnR n, lnR 9, lnR 9]))
theorem anss_2 {m n : Nat} (hm : m ≤ 10) (h1 : 1 ≤ n) (h9 : n ≤ 9) : anss (TkS.new 20) (lines2 m n) = told2 m n := by
  obtain ⟨t1, t2⟩ := run_twice m 0 (by omega)
  obtain ⟨c1, c2⟩ := run_come m
  have c3 : anss (uT (m + 1)) (List.replicate (m + 1) lnC) = oks (m + 1) ∧ behind (uT (m + 1)) (List.replicate (m + 1) lnC) = uC 0 := by
    rw [List.replicate_succ, anss, behind, b4]
    exact ⟨by show bOk.data.toList ++ 10 :: anss (uC m) (List.replicate m lnC) = _; rw [c1, oks_succ]; rfl, c2⟩
  have hd : anss (TkS.new 20) [lnW, lnS] = oks 2 ∧ behind (TkS.new 20) [lnW, lnS] = uT 1 := by
    rw [anss, anss, anss, behind, behind, behind, b1]
    show bOk.data.toList ++ 10 :: ((ans u0 lnS).1.data.toList ++ 10 :: []) = _ ∧ (ans u0 lnS).2 = _
    rw [b2]
    exact ⟨rfl, rfl⟩
  have tl : anss (uC 0) [lnR n, lnR 9, lnR 9] = (ltrs.extract 0 n).data.toList ++ 10 :: ((rest n).data.toList ++ 10 :: [45, 10]) := by
    rw [anss, b6 h1 h9]
    show _ ++ 10 :: anss (v1 n) [lnR 9, lnR 9] = _
    rw [anss, b7 h1 h9]
    show _ ++ 10 :: (_ ++ 10 :: anss (v2 n) [lnR 9]) = _
    rw [anss, b8 h1 h9]
    rfl
  have e0 : 0 + m + 1 = m + 1 := by omega
  have t1' : anss (uT 1) (List.replicate m lnT) = oks m := t1
  have t2' : behind (uT 1) (List.replicate m lnT) = uT (m + 1) := by rw [← e0]; exact t2
  unfold lines2 told2
  rw [anss_app, anss_app, anss_app, hd.1, hd.2, t1', t2', c3.1, c3.2, tl, show 3 + 2 * m = 2 + (m + (m + 1)) by omega, oks_app 2, oks_app m (m + 1), List.append_assoc, List.append_assoc]
/-- the session's text, as it is put together -/
def w1T : Nat → ByteArray
  | 0 => ⟨#[119, 114, 105, 116, 101, 32, 49, 32, 97, 98, 99, 100, 101, 102, 103, 104, 105, 10, 115, 101, 110, 100, 32, 49, 10]⟩
  | i + 1 => w1T i ++ ⟨#[116, 119, 105, 99, 101, 32, 48, 10]⟩
def w2T (m : Nat) : Nat → ByteArray
  | 0 => w1T m
  | i + 1 => w2T m i ++ ⟨#[99, 111, 109, 101, 32, 48, 10]⟩
def w3T (m n : Nat) : ByteArray := w2T m (m + 1) ++ ⟨#[114, 101, 97, 100, 32, 48, 32]⟩ ++ ⟨#[UInt8.ofNat (48 + n)]⟩ ++ ⟨#[10, 114, 101, 97, 100, 32, 48, 32, 57, 10, 114, 101, 97, 100, 32, 48, 32, 57, 10]⟩
theorem w1T_size : ∀ i, (w1T i).size = 25 + 8 * i
  | 0 => rfl
  | i + 1 => by
    rw [w1T, ByteArray.size_append, w1T_size i]
    have : (⟨#[116, 119, 105, 99, 101, 32, 48, 10]⟩ : ByteArray).size = 8 := rfl
    omega
theorem w2T_size (m : Nat) : ∀ i, (w2T m i).size = 25 + 8 * m + 7 * i
  | 0 => by rw [w2T, w1T_size]; rfl
  | i + 1 => by
    rw [w2T, ByteArray.size_append, w2T_size m i]
    have : (⟨#[99, 111, 109, 101, 32, 48, 10]⟩ : ByteArray).size = 7 := rfl
    omega
theorem rep_snoc (k : Nat) (l : List UInt8) : (List.replicate (k + 1) l).flatten = (List.replicate k l).flatten ++ l := by
  rw [List.replicate_succ', List.flatten_append]; simp
theorem w1T_data : ∀ i, (w1T i).data.toList = lnW ++ 10 :: (lnS ++ 10 :: (List.replicate i (lnT ++ [10])).flatten)
  | 0 => rfl
  | i + 1 => by
    rw [w1T, ByteArray.data_append, Array.toList_append, w1T_data i, rep_snoc]
    simp [lnT]
theorem w2T_data (m : Nat) : ∀ i, (w2T m i).data.toList = lnW ++ 10 :: (lnS ++ 10 :: ((List.replicate m (lnT ++ [10])).flatten ++ (List.replicate i (lnC ++ [10])).flatten))
  | 0 => by rw [w2T, w1T_data]; simp
  | i + 1 => by
    rw [w2T, ByteArray.data_append, Array.toList_append, w2T_data m i, rep_snoc]
    simp [lnC]
theorem w3T_data (m n : Nat) : (w3T m n).data.toList = lnW ++ 10 :: (lnS ++ 10 :: ((List.replicate m (lnT ++ [10])).flatten ++ ((List.replicate (m + 1) (lnC ++ [10])).flatten ++ (lnR n ++ 10 :: (lnR 9 ++ 10 :: (lnR 9 ++ 10 :: [])))))) := by
  unfold w3T
  rw [ByteArray.data_append, Array.toList_append, ByteArray.data_append, Array.toList_append, ByteArray.data_append, Array.toList_append, w2T_data]
  simp [lnR]
theorem w3T_size (m n : Nat) : (w3T m n).size = 25 + 8 * m + 7 * (m + 1) + 27 := by
  unfold w3T
  rw [ByteArray.size_append, ByteArray.size_append, ByteArray.size_append, w2T_size]
  rfl
theorem lines_rep (l : List UInt8) (hl : free 10 l) (r : List UInt8) : ∀ k, linesOf ((List.replicate k (l ++ [10])).flatten ++ r) = List.replicate k (l ++ [10]) ++ linesOf r
  | 0 => rfl
  | k + 1 => by
    rw [List.replicate_succ, List.flatten_cons, List.append_assoc, List.append_assoc, List.singleton_append, lines_one _ hl, lines_rep l hl r k]
    rfl
theorem trims_rep (l : List UInt8) (k : Nat) : (List.replicate k (l ++ [10])).map trim = List.replicate k l := by rw [List.map_replicate, trim_end]
theorem lines_2 (m n : Nat) (h1 : 1 ≤ n) (h9 : n ≤ 9) : (linesOf (w3T m n).data.toList).map trim = lines2 m n := by
  have f1 : free 10 lnW := by decide
  have f2 : free 10 lnS := by decide
  have f3 : free 10 lnT := by decide
  have f4 : free 10 lnC := by decide
  have f5 : free 10 (lnR n) := nine (P := fun n => free 10 (lnR n)) (by decide) h1 h9
  have f6 : free 10 (lnR 9) := by decide
  rw [w3T_data, lines_one _ f1, lines_one _ f2, lines_rep _ f3, lines_rep _ f4, lines_one _ f5, lines_one _ f6, lines_one _ f6, linesOf]
  unfold lines2
  simp only [List.map_cons, List.map_append, trims_rep, trim_end, List.map_nil]
  rfl
/-- THE SESSION TELLS IT ONCE -/
theorem told_twice {m n : Nat} (hm : m ≤ 10) (h1 : 1 ≤ n) (h9 : n ≤ 9) : runB (w3T m n) = ⟨(told2 m n).toArray⟩ := by
  unfold runB
  rw [if_neg (by rw [w3T_size]; omega)]
  unfold after
  rw [lines_2 m n h1 h9, anss_2 hm h1 h9]
/-- cut at the lines' ends -/
def cuts2 (m n : Nat) : List (List UInt8) := List.replicate (3 + 2 * m) [111, 107] ++ [(ltrs.extract 0 n).data.toList, (rest n).data.toList, [45], []]
theorem cut_oks (r : List UInt8) : ∀ k, cutAt 10 (oks k ++ r) = List.replicate k [111, 107] ++ cutAt 10 r
  | 0 => rfl
  | k + 1 => by
    rw [oks_succ, List.append_assoc, show ([111, 107, 10] : List UInt8) ++ (oks k ++ r) = [111, 107] ++ 10 :: (oks k ++ r) from rfl, cutAt_app _ (by decide), cut_oks r k]
    rfl
theorem cut_told {m n : Nat} (h1 : 1 ≤ n) (h9 : n ≤ 9) : cutAt 10 (told2 m n) = cuts2 m n := by
  have f1 : free 10 (ltrs.extract 0 n).data.toList := nine (P := fun n => free 10 (ltrs.extract 0 n).data.toList) (by decide) h1 h9
  have f2 : free 10 (rest n).data.toList := nine (P := fun n => free 10 (rest n).data.toList) (by decide) h1 h9
  unfold told2 cuts2
  rw [cut_oks, cutAt_app _ f1, cutAt_app _ f2]
  rfl
end Go.Proofs.YtmfbaijbigodkaaGreatDoor

/-! The reference's Cut (a text's words at a byte) and Digits (a number in decimal), by contracts. Condition: the text is short; the number is not below 0. -/
namespace Go.Proofs.YtmfbaijbigodkaaGreatDoor
open Go.ChangeShapes Go.WideShapes Go.ChangeAt Go.RowKit Go.Shelf
set_option linter.unusedVariables false

/-- words, as they lie in a slice of strings -/
def wrows (L : List (List UInt8)) : List (List Value) := L.map fun x => wRow ⟨x.toArray⟩
theorem wrows_len (L : List (List UInt8)) : (wrows L).length = L.length := by unfold wrows; rw [List.length_map]
theorem wrows_snoc (L : List (List UInt8)) (x : List UInt8) : wrows (L ++ [x]) = wrows L ++ [wRow ⟨x.toArray⟩] := by unfold wrows; rw [List.map_append]; rfl
theorem ext_bytes (s : ByteArray) (f i : Nat) : s.extract f i = ⟨((s.data.toList.drop f).take (i - f)).toArray⟩ := by
  apply ByteArray.ext
  apply Array.ext'
  rw [ByteArray.data_extract, Array.toList_extract, List.extract_eq_take_drop]
/-- a search that has gone so far -/
structure Cuts (c : UInt8) (l : List UInt8) (ws : List (List UInt8)) (f i : Nat) : Prop where
  eq : cutAt c l = ws ++ cutAt c (l.drop f)
  le : f ≤ i
  fr : free c ((l.drop f).take (i - f))
  few : ws.length ≤ f
theorem Cuts.start (c : UInt8) (l : List UInt8) : Cuts c l [] 0 0 := ⟨rfl, Nat.le_refl _, fun b hb => by simp at hb, Nat.le_refl _⟩
theorem mid_snoc {l : List UInt8} {f i : Nat} (hf : f ≤ i) (hi : i < l.length) : (l.drop f).take (i + 1 - f) = (l.drop f).take (i - f) ++ [l[i]] := by
  have e : i + 1 - f = (i - f) + 1 := by omega
  have h : i - f < (l.drop f).length := by rw [List.length_drop]; omega
  rw [e, List.take_succ_eq_append_getElem h, List.getElem_drop]
  congr 2
  congr 1
  omega
theorem Cuts.skip {c : UInt8} {l : List UInt8} {ws : List (List UInt8)} {f i : Nat} (h : Cuts c l ws f i) (hi : i < l.length) (hc : l[i] ≠ c) : Cuts c l ws f (i + 1) := by
  refine ⟨h.eq, Nat.le_succ_of_le h.le, fun b hb => ?_, h.few⟩
  rw [mid_snoc h.le hi] at hb
  rcases List.mem_append.1 hb with hb | hb
  · exact h.fr b hb
  · rw [List.mem_singleton.1 hb]; exact hc
theorem Cuts.here {c : UInt8} {l : List UInt8} {ws : List (List UInt8)} {f i : Nat} (h : Cuts c l ws f i) (hi : i < l.length) (hc : l[i] = c) : Cuts c l (ws ++ [(l.drop f).take (i - f)]) (i + 1) (i + 1) := by
  have e : l.drop f = (l.drop f).take (i - f) ++ c :: l.drop (i + 1) := by
    have h1 : (l.drop f).drop (i - f) = l[i] :: l.drop (i + 1) := by
      rw [List.drop_drop, show f + (i - f) = i by have := h.le; omega, List.drop_eq_getElem_cons hi]
    rw [hc] at h1
    rw [← h1, List.take_append_drop]
  refine ⟨?_, Nat.le_refl _, fun b hb => by simp at hb, ?_⟩
  · rw [h.eq, List.append_assoc, List.singleton_append, ← cutAt_app _ h.fr, ← e]
  · rw [List.length_append, List.length_singleton]; have := h.few; have := h.le; omega
theorem Cuts.done {c : UInt8} {l : List UInt8} {ws : List (List UInt8)} {f : Nat} (h : Cuts c l ws f l.length) : cutAt c l = ws ++ [l.drop f] := by
  rw [h.eq]
  congr 1
  apply cutAt_free
  have h1 := h.fr
  rw [List.take_of_length_le (by rw [List.length_drop]; exact Nat.le_refl _)] at h1
  exact h1
set_option maxHeartbeats 1600000 in
theorem rcut (s : ByteArray) (c : UInt8) (w : World) (hs : s.size ≤ 400000) :
    Calls Tryz.prog 37 #[.string s, .int .u8 c.toNat] w fun e w' => ∃ q cp, e = .returned (.slice (some ⟨q, 0, none⟩) (cutAt c s.data.toList).length cp) ∧ Lst w' 9 1 (.slice (some ⟨q, 0, none⟩) (cutAt c s.data.toList).length cp) (wrows (cutAt c s.data.toList)) ∧ w.heap.size ≤ q ∧ Since w w' := by
  obtain ⟨l, hl⟩ : ∃ l, s.data.toList = l := ⟨_, rfl⟩
  obtain ⟨n, hn⟩ : ∃ n, s.size = n := ⟨_, rfl⟩
  have HLN : Hid (l.length = n) := Lib.hid (by rw [← hl, ← hn, Array.length_toList]; rfl)
  have HL0 : Hid (s.data.toList = l) := Lib.hid hl
  have HN := Lib.hid hn
  have hnI : (n : Int) ≤ 400000 := by omega
  rw [hl]
  clear hl
  go_enter Tryz.func37, Tryz.ntmps37
  trace "A"; go_wp2_with fail
  go_loopw [5, 6, 7] (fun s5 s6 s7 wr => ∃ (i f : Nat) (A : Option Addr) (k : Nat) (ws : List (List UInt8)), s5 = .slice A ws.length k ∧ s6 = .int .i64 f ∧ s7 = .int .i64 i ∧ i ≤ n ∧ f ≤ i ∧ Hid (Cuts c l ws f i) ∧ Hid (Lst wr 9 1 (.slice A ws.length k) (wrows ws)) ∧ Hid (∀ q, q ∈ blocks (.slice A 0 0) → w.heap.size ≤ q) ∧ Since w wr) (fun _ _ s7 _ => n - (intOf s7).toNat)
  case atStart => exact ⟨0, 0, none, 0, [], rfl, rfl, rfl, Nat.zero_le _, Nat.le_refl _, Lib.hid (Cuts.start c l), Lib.hid (Lst.nil _ _ _), Lib.hid (by simp [Value.ownBlock]), Since.refl _⟩
  case round =>
    obtain ⟨i, f, A, k, ws, rfl, rfl, rfl, hi, hf, HC, HL, HW, hsw⟩ := hrel
    have hwl : ws.length ≤ 400000 := by have := HC.out.few; omega
    have hwlI : (ws.length : Int) ≤ 400000 := by omega
    have hfI : (f : Int) ≤ (i : Int) := by omega
    have hiI : (i : Int) ≤ (n : Int) := by omega
    by_cases hi2 : i < n
    · have hi3 : (i : Int) < (n : Int) := by omega
      have hil : i < l.length := by rw [HLN.out]; exact hi2
      have his : i < s.size := by rw [HN.out]; exact hi2
      have hget : s[i] = l[i] := by
        have h1 : s[i] = s.data.toList[i]'(by rw [Array.length_toList]; exact his) := rfl
        rw [h1]
        congr 1
      by_cases hb : l[i] = c
      · have hbt : ((s[i].toNat : Int) == (c.toNat : Int)) = true := by rw [hget, hb]; simp
        have HC2 := Lib.hid (HC.out.here hil hb)
        have HX : Hid ((s.extract f i) = ⟨((l.drop f).take (i - f)).toArray⟩) := Lib.hid (by rw [ext_bytes, HL0.out])
        generalize (l.drop f).take (i - f) = X at *
        have HRL := wrows_len ws
        have HR2 := Lib.hid (wrows_snoc ws X)
        clear hget hb
        trace "B"; go_wp2_with (at_builtin; refine wpList_push rfl _ _ 24 rfl 9 1 16 Tryz.elWrd (.slice A ws.length k) (wrows ws) rfl (HL.out.alloc _) wr.heap.size 1 (wRow (s.extract f i)) rfl rfl (wRow_one _).2 (BlockIs.fresh _ _ _) (by rw [wrows_len]; omega) ?_; intro q cq w5 hl5 ho5 hq5 hlt5)
        have hs5 : Since w w5 := (hsw.alloc _).out' ho5 (fun j hj => HW.out j (by rw [blocks_any A 0 0 ws.length k]; exact hj))
        have HW5 : Hid (∀ j, j ∈ blocks (.slice (some ⟨q, 0, none⟩) 0 0) → w.heap.size ≤ j) := Lib.hid (fun j hj => by
          have hj' : q = j := by simpa [Value.ownBlock] using hj
          rcases hq5 with h | h
          · rw [← hj']; exact HW.out q (by rw [blocks_any A 0 0 ws.length k]; exact h)
          · rw [← hj', h]; have := hsw.le; simp; omega)
        rw [HX.out, ← HR2.out] at hl5
        rw [HRL] at hl5
        have HL5 : Hid (Lst w5 9 1 (.slice (some ⟨q, 0, none⟩) (ws ++ [X]).length cq) (wrows (ws ++ [X]))) := Lib.hid (by rw [List.length_append, List.length_singleton]; exact hl5)
        clear hl5 ho5 hq5 hlt5
        trace "B2"; go_wp2_with fail
        go_roundw
        case rel => exact ⟨i + 1, i + 1, some ⟨q, 0, none⟩, cq, ws ++ [X], by rw [List.length_append, List.length_singleton], by go_num, by go_num, by omega, by omega, HC2, HL5, HW5, hs5⟩
        case measure => simp [intOf]; omega
      · have hbt : ((s[i].toNat : Int) == (c.toNat : Int)) = false := by
          rw [hget, beq_eq_false_iff_ne]
          intro e
          exact hb (UInt8.toNat_inj.1 (by omega))
        have HC2 := Lib.hid (HC.out.skip hil hb)
        clear hget hb
        trace "D"; go_wp2_with fail
        go_roundw
        case rel => exact ⟨i + 1, f, A, k, ws, rfl, rfl, by go_num, by omega, by omega, HC2, HL, HW, hsw⟩
        case measure => simp [intOf]; omega
    · obtain rfl : i = n := by omega
      have hf2 : decide ((i : Int) < (i : Int)) = false := by simp
      have HD : Hid (cutAt c l = ws ++ [l.drop f]) := Lib.hid (by
        have h := HC.out
        rw [← HLN.out] at h
        exact h.done)
      have HRL := wrows_len ws
      have HR2 := Lib.hid (wrows_snoc ws (l.drop f))
      have HX : Hid ((s.extract f i) = ⟨(l.drop f).toArray⟩) := Lib.hid (by rw [ext_bytes, HL0.out, List.take_of_length_le (by rw [List.length_drop, HLN.out]; exact Nat.le_refl _)])
      trace "C"; go_wp2_with (at_builtin; refine wpList_push rfl _ _ 24 rfl 9 1 16 Tryz.elWrd (.slice A ws.length k) (wrows ws) rfl (HL.out.alloc _) wr.heap.size 1 (wRow (s.extract f i)) rfl rfl (wRow_one _).2 (BlockIs.fresh _ _ _) (by rw [wrows_len]; omega) ?_; intro q cq w5 hl5 ho5 hq5 hlt5)
      have hs5 : Since w w5 := (hsw.alloc _).out' ho5 (fun j hj => HW.out j (by rw [blocks_any A 0 0 ws.length k]; exact hj))
      have hw5 : w.heap.size ≤ q := by
        rcases hq5 with h | h
        · exact HW.out q (by rw [blocks_any A 0 0 ws.length k]; exact h)
        · rw [h]; have := hsw.le; simp; omega
      rw [HX.out, ← HR2.out, ← HD.out] at hl5
      have hcl : ws.length + 1 = (cutAt c l).length := by rw [HD.out, List.length_append, List.length_singleton]
      rw [HRL, hcl] at hl5
      trace "C2"; go_wp2_with fail
      go_ret
      exact ⟨q, cq, by rw [← hcl]; simp, hl5, hw5, hs5⟩
theorem dig_at {n : Nat} (h : n < 10) : (⟨#[48, 49, 50, 51, 52, 53, 54, 55, 56, 57]⟩ : ByteArray).extract n (n + 1) = ⟨(Lib.itoa (n : Int)).toArray⟩ := by
  rw [Lib.itoa_nonneg, dd_small h]
  have : n = 0 ∨ n = 1 ∨ n = 2 ∨ n = 3 ∨ n = 4 ∨ n = 5 ∨ n = 6 ∨ n = 7 ∨ n = 8 ∨ n = 9 := by omega
  rcases this with rfl | rfl | rfl | rfl | rfl | rfl | rfl | rfl | rfl | rfl <;> rfl
theorem dig_more {n : Nat} (h : ¬ n < 10) : (⟨(Lib.itoa ((n / 10 : Nat) : Int)).toArray⟩ : ByteArray) ++ ⟨(Lib.itoa ((n % 10 : Nat) : Int)).toArray⟩ = ⟨(Lib.itoa (n : Int)).toArray⟩ := by
  rw [Lib.itoa_nonneg, Lib.itoa_nonneg, Lib.itoa_nonneg, dd_big h, dd_small (show n % 10 < 10 by omega)]
  apply ByteArray.ext
  apply Array.ext'
  rw [ByteArray.data_append, Array.toList_append]
theorem itoa_few60 (n : Nat) (h : n ≤ 9223372036854775807) : (Lib.itoa (n : Int)).length ≤ 60 := by
  rw [Lib.itoa_nonneg, Lib.decDigits_length]
  have := Lib.nDigits_le20 n (by omega)
  omega
set_option maxHeartbeats 1600000 in
theorem rdigits : ∀ (n : Nat) (w : World), n ≤ 9223372036854775807 → 
    Calls Tryz.prog 39 #[.int .i64 (n : Int)] w fun e w' => e = .returned (.string ⟨(Lib.itoa (n : Int)).toArray⟩) ∧ Since w w' := by
  intro n
  induction n using Nat.strongRecOn with
  | _ n ih =>
    intro w hn
    go_enter Tryz.func39, Tryz.ntmps39
    by_cases h : n < 10
    · have h' : (n : Int) < 10 := by omega
      trace "A"; go_wp2_with fail
      go_ret
      exact ⟨by simp [dig_at h], Since.refl _⟩
    · have h' : decide ((n : Int) < 10) = false := by simp; omega
      have HM := Lib.hid (dig_more h)
      have hs60 := itoa_few60 (n / 10) (by omega)
      have HI := Lib.hid (ih (n / 10) (by omega) w (by omega))
      have hd : n % 10 < 10 := by omega
      have hdI : ((n % 10 : Nat) : Int) < 10 := by omega
      have HD := Lib.hid (dig_at hd)
      clear ih
      trace "B"; go_wp2_with fail
      rw [show (n : Int) / 10 = ((n / 10 : Nat) : Int) from by omega, show (n : Int) % 10 = ((n % 10 : Nat) : Int) from by omega]
      refine HI.out.mono ?_
      rintro e w2 ⟨rfl, hs2⟩
      clear HI h h'
      generalize n % 10 = d at *
      have hs61 : (⟨(Lib.itoa ((n / 10 : Nat) : Int)).toArray⟩ : ByteArray).size ≤ 60 := by show (Lib.itoa ((n / 10 : Nat) : Int)).toArray.size ≤ 60; simpa using hs60
      generalize (⟨(Lib.itoa ((n / 10 : Nat) : Int)).toArray⟩ : ByteArray) = X at *
      have hs62 : (ByteArray.extract ⟨#[48, 49, 50, 51, 52, 53, 54, 55, 56, 57]⟩ d (d + 1)).size ≤ 60 := by rw [ByteArray.size_extract]; omega
      clear hs60
      trace "B2"; go_wp2_with fail
      go_ret
      exact ⟨by simp [HD.out, HM.out], hs2⟩
end Go.Proofs.YtmfbaijbigodkaaGreatDoor
