/- Contracts and plain laws that the claim leans on, part 7 of 10: each part has its own word. No condition beside theirs. -/
import Derived.Test.YtmfbaijbigodkaaGreatDoorBase
import Derived.Test.YtmfbaijbigodkaaGreatDoorOnly
import Derived.Test.YtmfbaijbigodkaaGreatDoorMay
import Derived.Test.YtmfbaijbigodkaaGreatDoorCredit
import Derived.Test.YtmfbaijbigodkaaGreatDoorVF
import Derived.Deep.RegionLaw
import Derived.Deep.DeepCutAuto
set_option maxHeartbeats 40000000
set_option maxRecDepth 100000
namespace Go.Proofs.YtmfbaijbigodkaaGreatDoor
open Go.ChangeShapes Go.WideShapes Go.ChangeAt Go.RowKit
set_option linter.unusedVariables false
structure AkN (w wr : World) (q0 : Nat) (M : List Int) (i : Nat) (A : Option Addr) (c : Nat) : Prop where
 bl : BlockIs wr q0 93 #[.int .i64 2, .slice A i c, .string ⟨#[]⟩]
 ls : Lst wr 3 1 (.slice A i c) (M.map intRow)
 len : M.length = i
 new : ∀ q, q ∈ blocks (.slice A 0 0) → w.heap.size ≤ q
 q : w.heap.size ≤ q0
 since : Since w wr
theorem AkN.alloc {w wr : World} {q0 : Nat} {M : List Int} {i : Nat} {A : Option Addr} {c : Nat} (h : AkN w wr q0 M i A c) (o : Obj) : AkN w (wr.alloc o) q0 M i A c :=
 ⟨h.bl.alloc o, h.ls.alloc o, h.len, h.new, h.q, h.since.alloc o⟩
theorem AkN.drew {w wr : World} {q0 : Nat} {M : List Int} {i : Nat} {A : Option Addr} {c : Nat} (h : AkN w wr q0 M i A c) : AkN w wr.drew q0 M i A c :=
 ⟨h.bl.drew, h.ls.drew, h.len, h.new, h.q, h.since.drew⟩
theorem AkN.after {w X w9 : World} {q0 : Nat} {M : List Int} {i : Nat} {A : Option Addr} {c : Nat} (h : AkN w X q0 M i A c) (ho : Out X w9 (blocks (.slice A i c))) :
  Since w w9 ∧ BlockIs w9 q0 93 #[.int .i64 2, .slice A i c, .string ⟨#[]⟩] :=
 ⟨h.since.out' ho (fun k hk => h.new k (by rw [blocks_any A 0 0 i c]; exact hk)), ho.block' h.bl (h.ls.apart h.bl (by decide))⟩
theorem AkN.step {w X w9 : World} {q0 : Nat} {M N : List Int} {i m : Nat} {A A9 : Option Addr} {c c9 : Nat} (h : AkN w X q0 M i A c) (ho : Out X w9 (blocks (.slice A i c)))
  (hl : Lst w9 3 1 (.slice A9 (i + m) c9) (M.map intRow ++ N.map intRow)) (hN : N.length = m) (hb : ∀ k, k ∈ blocks (.slice A9 (i + m) c9) → k ∈ blocks (.slice A i c) ∨ k = X.heap.size) :
  AkN w (w9.setCell ⟨q0, 1, none⟩ (.slice A9 (i + m) c9)) q0 (M ++ N) (i + m) A9 c9 := by
 obtain ⟨hs, h1⟩ := h.after ho
 refine ⟨h1.put 1 _, ?_, by rw [List.length_append, h.len, hN], fun k hk => ?_, h.q, hs.set h.q _⟩
 · rw [List.map_append]
   exact hl.kept ((Out.refl w9 [q0]).put (p := ⟨q0, 1, none⟩) (Or.inl (by simp)) _) (fun k hk hk2 => hl.apart h1 (by decide) (by rw [List.mem_singleton.1 hk2] at hk; exact hk))
 · rcases hb k (by rw [blocks_any A9 0 0 (i + m) c9] at hk; exact hk) with h' | h'
   · exact h.new k (by rw [blocks_any A 0 0 i c]; exact h')
   · rw [h']; exact h.since.le
structure ScIn (w5 wr : World) (s : EnS) (i : Nat) (A : Option Addr) (k : Nat) (P : List Pc) (f : Int) : Prop where
 sc : Scan s.told s.last s.data s.pieces i P f
 ls : Lst wr 98 2 (.slice A P.length k) (P.map pcRow)
 nw : ∀ q, q ∈ blocks (.slice A 0 0) → w5.heap.size ≤ q
 since : Since w5 wr
theorem ScIn.as {w5 wr : World} {s : EnS} {i j k : Nat} {A : Option Addr} {P : List Pc} {f f' : Int} (h : ScIn w5 wr s i A k P f) (hs : Scan s.told s.last s.data s.pieces j P f') : ScIn w5 wr s j A k P f' := ⟨hs, h.ls, h.nw, h.since⟩
theorem ScIn.push {w5 wr w9 : World} {s : EnS} {i a k q c : Nat} {A : Option Addr} {P : List Pc} {o : Obj} (h : ScIn w5 wr s i A k P (a : Int)) (hc : openAt s.told s.last i = false ∨ i - a = 20) (hP : P.length < 3)
  (hl : Lst w9 98 2 (.slice (some ⟨q, 0, none⟩) (P.length + 1) c) (P.map pcRow ++ [pcRow ⟨a, s.data.extract a i⟩])) (ho : Out (wr.alloc o) w9 (blocks (.slice A P.length k))) (hq : q ∈ blocks (.slice A P.length k) ∨ q = (wr.alloc o).heap.size) :
  ScIn w5 w9 s i (some ⟨q, 0, none⟩) c (P ++ [⟨a, s.data.extract a i⟩]) (-1) := by
 refine ⟨h.sc.close hc hP, by rw [List.length_append, List.map_append]; exact hl, fun x hx => ?_, (h.since.alloc o).out' ho (fun x hx => h.nw x (blocks_any A _ _ _ _ ▸ hx))⟩
 have : q = x := by simpa [Value.ownBlock] using hx
 subst this
 rcases hq with hq | hq
 · exact h.nw _ (blocks_any A _ _ _ _ ▸ hq)
 · rw [hq]
   have := h.since.size
   simp
   omega
def ScGo (s : EnS) (i : Nat) (f : Int) : Prop := f = -1 ∨ ∃ a : Nat, f = a ∧ openAt s.told s.last i = true ∧ ¬ i - a = 20
def isR2 : Code → Bool
 | .region 2 _ _ => true
 | _ => false
def at2 : Code → Option Code
 | .seq a b => match isR2 a with
  | true => some (.seq a b)
  | false => match at2 a with
   | some c => some c
   | none => at2 b
 | .block _ c => at2 c
 | .loop c => at2 c
 | .scope c => at2 c
 | _ => none
theorem make_ack {g : Nat} {s : EnS} {w : World} {S : List Nat} (h : (rnT g s).is w S) (J K : Act → World → Prop) (R : Ending → World → Prop)
  (hJ : ∀ a wx, (∃ u3 u4 u5 u14 u15 u16 u17 u18 u19 u20 u21 u22 u23 u24 u25 u26 u27 u28 u29 u30 u31 u32 u33 u34 u35 u36 u37 u38 u39 u40 u41 u42 u43 u44 u45 u46 u47 u48 u49 u50 u51 u52 u53 u54 u55 u56 u57 u58 u59 u60 u61 u62 u63 u64 u65 u66 u67 u68 u69 u70 u71 u72 u73 u74 u75 u76 u77 u78 u79 u80 u81 u82 u83 u84 u85 u86 u87 u88 u89 u90 u91 u92 u93 u94 u95 u96 u97 u98 u99 u100 u101 u102 u103 u104 u105 u106 u107 u108 u109 u110 u111 u112 u113 u114 u115 u116 u117 u118 u119 u120 u121 u122 u123 u124 u125 u126 u127 u128 u129 u130 u131 u132 u133 u134 u135 u136 u137 u138 u139 u140 u141 u142 u143 u144 u145 u146 u147 u148 u149 u150 u151 u152 u153 u154 u155 u156 u157 u158 u159 u160 u161 u162 u163 u164 u165 u166 u167 u168 u169 u170 u171 u172 u173 u174 u175 u176 u177 : Value, (∃ A k Ms, u3 = .slice A Ms.length k ∧ FlSt w wx A k Ms ∧ Ms.map (·.f) = ackFs s.came) ∧ a = ⟨#[.pointer (some ⟨g, 0, none⟩), undef, .string ⟨#[]⟩, u3, u4, u5, undef, undef, undef, undef, undef, undef, undef, undef, u14, u15, u16, u17, u18, u19, u20, u21, u22, u23, u24, u25, u26, u27, u28, u29, u30, u31, u32, u33, u34, u35, u36, u37, u38, u39, u40, u41, u42, u43, u44, u45, u46, u47, u48, u49, u50, u51, u52, u53, u54, u55, u56, u57, u58, u59, u60, u61, u62, u63, u64, u65, u66, u67, u68, u69, u70, u71, u72, u73, u74, u75, u76, u77, u78, u79, u80, u81, u82, u83, u84, u85, u86, u87, u88, u89, u90, u91, u92, u93, u94, u95, u96, u97, u98, u99, u100, u101, u102, u103, u104, u105, u106, u107, u108, u109, u110, u111, u112, u113, u114, u115, u116, u117, u118, u119, u120, u121, u122, u123, u124, u125, u126, u127, u128, u129, u130, u131, u132, u133, u134, u135, u136, u137, u138, u139, u140, u141, u142, u143, u144, u145, u146, u147, u148, u149, u150, u151, u152, u153, u154, u155, u156, u157, u158, u159, u160, u161, u162, u163, u164, u165, u166, u167, u168, u169, u170, u171, u172, u173, u174, u175, u176, u177], []⟩) → J a wx) (hK : ∀ a wx, Met J a wx → K a wx) :
  let Q := bodyPost Tryz.prog Tryz.f16 R; Code.wp Tryz.prog ((Tryz.f16.body.bind at2).getD .skip) (Exit.then K Q) ⟨#[.pointer (some ⟨g, 0, none⟩), undef, .string ⟨#[]⟩, .slice none 0 0, undef, undef, undef, undef, undef, undef, undef, undef, undef, undef, undef, undef, undef, undef, undef, undef, undef, undef, undef, undef, undef, undef, undef, undef, undef, undef, undef, undef, undef, undef, undef, undef, undef, undef, undef, undef, undef, undef, undef, undef, undef, undef, undef, undef, undef, undef, undef, undef, undef, undef, undef, undef, undef, undef, undef, undef, undef, undef, undef, undef, undef, undef, undef, undef, undef, undef, undef, undef, undef, undef, undef, undef, undef, undef, undef, undef, undef, undef, undef, undef, undef, undef, undef, undef, undef, undef, undef, undef, undef, undef, undef, undef, undef, undef, undef, undef, undef, undef, undef, undef, undef, undef, undef, undef, undef, undef, undef, undef, undef, undef, undef, undef, undef, undef, undef, undef, undef, undef, undef, undef, undef, undef, undef, undef, undef, undef, undef, undef, undef, undef, undef, undef, undef, undef, undef, undef, undef, undef, undef, undef, undef, undef, undef, undef, undef, undef, undef, undef, undef, undef, undef, undef, undef, undef, undef, undef, undef, undef, undef, undef, undef, undef, undef, undef, undef, undef, undef, undef, undef, undef, undef, undef, undef, undef], []⟩ w := by
 obtain ⟨p, hp⟩ := rnT_open h
 have H := Lib.hid hp
 have c64 := hp.c64
 have lg := hp.bg.lt
 obtain ⟨Ac, cc, hcv, -, -, -⟩ := hp.lc.shape
 rw [List.length_map] at hcv
 rw [hcv] at c64
 have HRC : Hid (Rd w 2 (.slice Ac s.came.length cc) (s.came.map rngRow)) := Lib.hid (by rw [← hcv]; exact Rd.of_lst hp.lc)
 have HC12 := Lib.hid (rngE_len hp.ok.cm)
 have HF0 := Lib.hid (FlSt.start (Since.refl w))
 clear h hp hcv
 intro Q
 conv => arg 2; whnf
 by_cases h0 : s.came = []
 · have hE : Hid (ackFs s.came = []) := Lib.hid (by unfold ackFs; rw [if_pos h0])
   rw [h0] at c64
   clear h0
   go_wp2_with fail
   go_meet
   case rel => exact ⟨none, 0, [], rfl, HF0.out, hE.out.symm⟩
 · have hE : Hid (ackFs s.came = [⟨2, unpairs s.came, ByteArray.empty⟩]) := Lib.hid (by unfold ackFs; rw [if_neg h0])
   have hn0 : 0 < s.came.length := List.length_pos_iff.2 h0
   have hu := unpairs_len s.came
   have hb30 := rngE_ok H.out.ok.cm
   obtain ⟨b, off, rfl, hltb, hcc⟩ := HRC.out.rng hn0
   have HCC := Lib.hid hcc
   have HG : Hid (∀ (X : World) A1 c1, Lst X 3 1 (.slice A1 (2 * s.came.length) c1) ((unpairs s.came).map intRow) → FrmIn X ⟨⟨2, unpairs s.came, ByteArray.empty⟩, A1, c1⟩) := Lib.hid (fun X A1 c1 hl => by
    rw [← hu] at hl
    exact ⟨show -9223372036854775808 ≤ (2 : Int) ∧ (2 : Int) ≤ 9223372036854775807 by decide, by show ByteArray.empty.size ≤ maxLen; simp [maxLen], ints_of_lst hl (fun z hz => by
     obtain ⟨r, hr, hz⟩ := List.mem_flatMap.1 hz
     obtain ⟨⟨a1, a2⟩, b1, b2⟩ := hb30 r hr
     simp at hz
     rcases hz with rfl | rfl <;> omega)⟩)
   have HU := Lib.hid hu
   obtain ⟨n, hn⟩ : ∃ n, s.came.length = n := ⟨_, rfl⟩
   have hn12 := HC12.out
   have HNN := Lib.hid hn
   rw [hn] at c64 hn0 hn12 HCC HG HU
   have hl0 : (0 : Int) < (n : Int) := by omega
   clear hu hb30 hcc hn h0
   go_wp2_with fail
   go_loopw [5] (fun s5 wr => ∃ (i : Nat) (A : Option Addr) (c : Nat), s5 = .int .i64 i ∧ i ≤ n ∧ AkN w wr w.heap.size (unpairs (s.came.take i)) (2 * i) A c) (fun s5 _ => n - (intOf s5).toNat)
   case atStart => exact ⟨0, none, 0, rfl, Nat.zero_le _, ⟨BlockIs.fresh _ _ _, Lst.nil _ _ _, rfl, by simp [Value.ownBlock], Nat.le_refl _, (by exact Since.alloc (Since.refl _) _)⟩⟩
   case round =>
    obtain ⟨i, A', c', rfl, hi, hak⟩ := hrel
    have HS := Lib.hid hak
    have d0 : wr.cell? ⟨w.heap.size, 0, none⟩ = some (.int .i64 2) := hak.bl.cell 0
    have d1 : wr.cell? ⟨w.heap.size, 1, none⟩ = some (.slice A' (2 * i) c') := hak.bl.cell 1
    have d2 : wr.cell? ⟨w.heap.size, 2, none⟩ = some (.string ⟨#[]⟩) := hak.bl.cell 2
    have ld := hak.bl.lt
    have fd := hak.bl.free
    have d64 : wr.cell? ⟨g, 64, none⟩ = some (.slice (some ⟨b, off, none⟩) n cc) := hak.since.cell lg c64
    have lgr := Nat.lt_of_lt_of_le lg hak.since.size
    have lbr := Nat.lt_of_lt_of_le hltb hak.since.size
    by_cases hlt : i < n
    case neg =>
     obtain rfl : i = n := by omega
     have hf : decide ((i : Int) < (i : Int)) = false := by simp
     have hz : Hid (s.came.take i = s.came) := Lib.hid (List.take_of_length_le (by rw [HNN.out]; exact Nat.le_refl _))
     rw [hz.out] at HS
     clear hak
     go_wp2_with (at_builtin; refine wpList_push rfl _ _ 91 rfl 93 3 48 Tryz.elFrm (.slice none 0 0) [] rfl (Lst.nil _ _ _) wr.heap.size 1 [.int .i64 2, .slice A' (2 * i) c', .string ⟨#[]⟩] rfl rfl (by intro u hu; simp at hu; rcases hu with rfl | rfl | rfl <;> rfl) (BlockIs.fresh _ _ _) (by simp) ?_; intro q cq w5 hl5 ho5 hq5 hlt5)
     go_meet
     case rel =>
      refine ⟨some ⟨q, 0, none⟩, cq, [⟨⟨2, unpairs s.came, ByteArray.empty⟩, A', c'⟩], rfl, ?_, hE.out.symm⟩
      have hsw : Since w wr := HS.out.since
      have hX : Below w.heap.size w (wr.alloc (.cells #[.int .i64 2, .slice A' (2 * i) c', .string ⟨#[]⟩] 93)) := (show Since w _ from (by exact Since.alloc hsw _))
      refine HF0.out.step (g := ⟨⟨2, unpairs s.came, ByteArray.empty⟩, A', c'⟩) hX (HG.out _ A' c' (HS.out.ls.alloc _)) (fun b off e => ?_) ?_ ho5 hq5
      · exact newA_lst HS.out.ls HS.out.new b off e
      · have e : frmRow ⟨⟨2, unpairs s.came, ByteArray.empty⟩, A', c'⟩ = [.int .i64 2, .slice A' (2 * i) c', .string ⟨#[]⟩] := by unfold frmRow; rw [HU.out]; rfl
        rw [e]; exact hl5
    have hlt' : (i : Int) < (n : Int) := by omega
    have hil : i < s.came.length := by rw [HNN.out]; exact hlt
    obtain ⟨e0, e1⟩ := HCC.out wr hak.since i hlt
    have HT := Lib.hid (take_unpairs hil)
    have HUL : Hid (((unpairs (s.came.take i)).map intRow).length = 2 * i) := Lib.hid (by rw [List.length_map, HS.out.len])
    clear hil hak
    generalize (rat s.came i).lo = lo at *
    generalize (rat s.came i).hi = hi3 at *
    have HNEW : Hid (∀ j u, (flat [intRow hi3, intRow lo])[j]? = some u → (wr.alloc (.cells #[.int .i64 hi3, .int .i64 lo] 3)).cell? ((⟨wr.heap.size, 0, none⟩ : Addr).add j) = some u) := Lib.hid (fun j u hj => by
     rw [addr_at, (BlockIs.fresh wr 3 #[.int .i64 hi3, .int .i64 lo]).cell]
     match j, hj with
     | 0, hj => exact hj
     | 1, hj => exact hj
     | _ + 2, hj => simp [intRow] at hj)
    go_upto_region 7 with fail
    go_region_law ((refine step_cat rfl _ _ 22 rfl 3 1 8 Tryz.elInt (.slice A' (2 * i) c') ((unpairs (s.came.take i)).map intRow) rfl ?_ ⟨wr.heap.size, 0, none⟩ 2 2 [intRow hi3, intRow lo] rfl rfl ?_ ?_ ?_ ?_; (first | exact (HS.out.ls.alloc _).drew | exact HS.out.ls.alloc _); (intro e he; simp at he; rcases he with rfl | rfl <;> exact intRow_one _); (exact HNEW.out); (rw [HUL.out]; simp; omega); intro A9 c9 w9 hl9 ho9 hb9; rw [HUL.out] at hl9 hb9; (try rw [HUL.out]); have HX3 := Lib.hid (HS.out.alloc (.cells #[.int .i64 hi3, .int .i64 lo] 3)).drew; have HN9 := Lib.hid (HX3.out.step (N := [hi3, lo]) (m := 2) ho9 hl9 rfl hb9); obtain ⟨hs9, hB9⟩ := HX3.out.after ho9; have f9 := hB9.free; have l9 := hB9.lt; have e91 : w9.cell? ⟨w.heap.size, 1, none⟩ = some (.slice A' (2 * i) c') := hB9.cell 1; clear hl9 ho9 hb9 hB9))
    all_goals
     have HN10 : Hid (AkN w (w9.setCell ⟨w.heap.size, 1, none⟩ (.slice A9 (2 * i + 2) c9)) w.heap.size (unpairs (s.came.take (i + 1))) (2 * i + 2) A9 c9) := Lib.hid (by rw [HT.out]; exact HN9.out)
     go_wp2_with fail
     go_roundw
     case rel => exact ⟨i + 1, A9, c9, by go_num, by omega, (by first | exact HN10.out | exact HN10.out.drew)⟩
     case measure => simp [intOf]; omega
theorem nmake (g : Nat) (s : EnS) (w : World) (S : List Nat) (h : (rnT g s).is w S) (h1000 : s.made.length ≤ 1000) :
  Calls Tryz.prog 16 #[.pointer (some ⟨g, 0, none⟩)] w fun e w' => e = .returned (.string ⟨s.packet.toArray⟩) ∧ Leaves w w' S (rnT g s.make) := by
 obtain ⟨p, hp⟩ := rnT_open h
 have H := Lib.hid hp
 have c64 := hp.c64
 have lg := hp.bg.lt
 obtain ⟨Ac, cc, hcv, -, -, -⟩ := hp.lc.shape
 rw [List.length_map] at hcv
 rw [hcv] at c64
 have HX : Hid (∀ X, Since w X → X.cell? ⟨g, 62, none⟩ = some p.mv ∧ X.cell? ⟨g, 63, none⟩ = some (.int .i64 s.known) ∧ X.cell? ⟨g, 66, none⟩ = some (.pointer (some ⟨p.gl, 0, none⟩)) ∧ X.cell? ⟨p.gl, 1, none⟩ = some (.int .i64 s.L) ∧ g < X.heap.size ∧ p.gl < X.heap.size) := Lib.hid (fun X hX => ⟨hX.cell hp.bg.lt hp.c62, hX.cell hp.bg.lt hp.c63, hX.cell hp.bg.lt hp.c66, hX.cell hp.bl.lt (hp.bl.cell 1), Nat.lt_of_lt_of_le hp.bg.lt hX.size, Nat.lt_of_lt_of_le hp.bl.lt hX.size⟩)
 have HXS : Hid (∀ X, Since w X → X.cell? ⟨g, 0, none⟩ = some (.string s.data) ∧ X.cell? ⟨g, 61, none⟩ = some (.int .i64 s.may) ∧ g < X.heap.size) := Lib.hid (fun X hX => ⟨hX.cell hp.bg.lt hp.c0, hX.cell hp.bg.lt hp.c61, Nat.lt_of_lt_of_le hp.bg.lt hX.size⟩)
 have HXT : Hid (∀ X, Since w X → ∀ i, i < 60 → X.cell? ⟨g, 1 + i, none⟩ = some (.bool (tat s.told i))) := Lib.hid (fun X hX i hi => hX.cell hp.bg.lt (hp.ct hi))
 obtain ⟨Am, cm, hmv, -, -, -⟩ := hp.lm.shape
 rw [List.length_map, hp.len] at hmv
 have HMV := Lib.hid hmv
 have HH := Lib.hid h
 clear h hp hcv hmv
 go_enter Tryz.func16, Tryz.ntmps16
 repeat ((fail_if_success (with_reducible refine stop_at 2 ?_)); first | fail | go_values | go_skip | go_guarded | go_step | go_upon | go_back | go_simp)
 go_cut [3] (fun s3 wx => ∃ A k Ms, s3 = .slice A Ms.length k ∧ FlSt w wx A k Ms ∧ Ms.map (·.f) = ackFs s.came)
 case first J K hJ hK => exact make_ack HH.out J K _ hJ hK
 case rest =>
  obtain ⟨A, k, Ms, rfl, hf, hms⟩ := hcut
  have HF := Lib.hid hf
  have HMS := Lib.hid hms
  have hs : Since w wc := hf.since
  obtain ⟨d62, d63, d66, d1, lx, lx2⟩ := HX.out wc hf.since
  obtain ⟨m, hm⟩ : ∃ m, Ms.length = m := ⟨_, rfl⟩
  have HM := Lib.hid hm
  have hm1 : m ≤ 1 := by
   have e := congrArg List.length hms
   rw [List.length_map, hm] at e
   rw [e]; unfold ackFs; split <;> simp
  obtain ⟨es, hes⟩ : ∃ es, Ms.map frmRow = es := ⟨_, rfl⟩
  have HES : Hid (es.length = m) := Lib.hid (by rw [← hes, List.length_map]; exact hm)
  have HEQ := Lib.hid hes
  have HLS : Hid (Lst wc 93 3 (.slice A m k) es) := Lib.hid (by have := hf.ls; rw [hes, hm] at this; exact this)
  have HLL : Hid (MayBe s.L) := Lib.hid (by have := H.out.ok.cr; have := this.l1; have := H.out.ok.cr.w1; have := H.out.ok.cr.l2; unfold MayBe; omega)
  rw [hm]
  clear hf hms hm hes
  go_upto_region 10 with (at_builtin; refine wpList_push rfl _ _ 91 rfl 93 3 48 Tryz.elFrm (.slice A m k) es rfl ((HLS.out.alloc _).alloc _) (wc.heap.size + 1) 1 [.int .i64 4, .slice (some ⟨wc.heap.size, 0, none⟩) 1 1, .string ⟨#[]⟩] rfl rfl (by intro u hu; simp at hu; rcases hu with rfl | rfl | rfl <;> rfl) (BlockIs.fresh_at (by simp)) (by rw [HES.out]; omega) ?_; intro q cq w5 hl5 ho5 hq5 hlt5; rw [HES.out] at hl5; rw [HES.out])
  have HF5 : Hid (FlSt w w5 (some ⟨q, 0, none⟩) cq (Ms ++ [⟨⟨4, [s.L], ByteArray.empty⟩, some ⟨wc.heap.size, 0, none⟩, 1⟩])) := Lib.hid (by
   have hX : Below wc.heap.size wc ((wc.alloc (.cells #[.int .i64 s.L] 3)).alloc (.cells #[.int .i64 4, .slice (some ⟨wc.heap.size, 0, none⟩) 1 1, .string ⟨#[]⟩] 93)) := (show Since wc _ from (by exact Since.alloc (Since.alloc (Since.refl _) _) _))
   have hmb := HLL.out
   unfold MayBe at hmb
   refine HF.out.step (g := ⟨⟨4, [s.L], ByteArray.empty⟩, some ⟨wc.heap.size, 0, none⟩, 1⟩) hX ⟨show -9223372036854775808 ≤ (4 : Int) ∧ (4 : Int) ≤ 9223372036854775807 by decide, by show ByteArray.empty.size ≤ maxLen; simp [maxLen], ints_one ((BlockIs.fresh _ _ _).alloc _) (by omega)⟩ (newA_at (Nat.le_refl _)) ?_ ?_ ?_
   · rw [HM.out, HEQ.out]; exact hl5
   · rw [HM.out]; exact ho5
   · rw [HM.out]; exact hq5)
  have HM5 : Hid ((Ms ++ [(⟨⟨4, [s.L], ByteArray.empty⟩, some ⟨wc.heap.size, 0, none⟩, 1⟩ : FrmV)]).map (·.f) = ackFs s.came ++ [⟨4, [s.L], ByteArray.empty⟩]) := Lib.hid (by rw [List.map_append, HMS.out]; rfl)
  have HL5 : Hid ((Ms ++ [(⟨⟨4, [s.L], ByteArray.empty⟩, some ⟨wc.heap.size, 0, none⟩, 1⟩ : FrmV)]).length = m + 1) := Lib.hid (by rw [List.length_append, HM.out]; rfl)
  obtain ⟨M5, hM5⟩ : ∃ M, Ms ++ [(⟨⟨4, [s.L], ByteArray.empty⟩, some ⟨wc.heap.size, 0, none⟩, 1⟩ : FrmV)] = M := ⟨_, rfl⟩
  rw [hM5] at HF5 HM5 HL5
  have hs5 : Since w w5 := HF5.out.since
  obtain ⟨x0, x61, lx5⟩ := HXS.out w5 hs5
  have hla := H.out.ok.last
  have hdz := H.out.ok.dz
  have hmy := H.out.ok.my
  have HLI : Hid (s.last = min s.data.size s.may.toNat) := Lib.hid rfl
  clear hl5 ho5 hq5 hM5 HF HMS HM HES HEQ HLS d62 d63 d66 d1 lx lx2 hs
  repeat ((fail_if_success (with_reducible refine stop_at 12 ?_)); first | fail | go_values | go_skip | go_guarded | go_step | go_upon | go_back | go_simp)
  go_cut [7] (fun s7 wx => s7 = .int .i64 s.last ∧ wx = w5)
  case first =>
   by_cases hmd : s.may < (s.data.size : Int)
   · have hl : Hid ((s.last : Int) = s.may) := Lib.hid (by rw [HLI.out]; omega)
     go_wp2_with fail
     go_meet
     case rel => exact ⟨by rw [hl.out], rfl⟩
   · have hl : Hid ((s.last : Int) = (s.data.size : Int)) := Lib.hid (by rw [HLI.out]; omega)
     have hmd' : decide (s.may < (s.data.size : Int)) = false := by simpa using hmd
     clear hmd
     go_wp2_with fail
     go_meet
     case rel => exact ⟨by rw [hl.out], rfl⟩
  case rest =>
   obtain ⟨rfl, rfl⟩ := hcut
   obtain ⟨la, hla2⟩ : ∃ x, s.last = x := ⟨_, rfl⟩
   have HLA := Lib.hid hla2
   rw [hla2] at hla
   rw [hla2]
   have HSC : Hid (ScIn wc wc s 0 none 0 [] (-1)) := Lib.hid ⟨Scan.start, Lst.nil _ _ _, by simp [Value.ownBlock], Since.refl _⟩
   clear x0 x61 lx5 hla2
   obtain ⟨w5, hw5⟩ : ∃ w5 : World, w5 = wc := ⟨_, rfl⟩
   subst hw5
   go_wp2_with fail
   go_loopw [6, 8, 9, 10] (fun s6 s8 s9 s10 wr => ∃ (i k : Nat) (A : Option Addr) (P : List Pc) (f : Int), s9 = .int .i64 i ∧ s8 = .int .i64 f ∧ s6 = .slice A P.length k ∧ i ≤ la + 1 ∧ ScIn w5 wr s i A k P f) (fun s6 s8 s9 s10 _ => la + 1 - (intOf s9).toNat)
   case atStart => exact ⟨0, 0, none, [], -1, rfl, rfl, rfl, by omega, HSC.out⟩
   case round =>
    obtain ⟨i, k, A, P, f, rfl, rfl, rfl, hi, hsc⟩ := hrel
    have HSC := Lib.hid hsc
    have hP3 := hsc.sc.few
    have hbd := hsc.sc.bound
    have hs6 : Since w wr := hs5.later hsc.since
    rw [HLA.out] at hbd
    obtain ⟨x0, x61, lxr⟩ := HXS.out wr hs6
    have HTT := Lib.hid (HXT.out wr hs6)
    obtain ⟨m6, hm6⟩ : ∃ x, P.length = x := ⟨_, rfl⟩
    have HM6 := Lib.hid hm6
    rw [hm6] at hP3
    rw [hm6]
    clear hsc hm6
    by_cases hle : i ≤ la
    case pos =>
     have hle' : (i : Int) ≤ (la : Int) := by omega
     go_upto_region 18 with fail
     go_cut [10] (fun s10 wx => s10 = .bool (openAt s.told la i) ∧ wx = wr)
     case first =>
      by_cases hil : i < la
      · have hil' : (i : Int) < (la : Int) := by omega
        have ci := HTT.out i (by omega)
        have hi60 : (i : Int) < 60 := by omega
        cases hb : tat s.told i with
        | true =>
          have HOB : Hid (openAt s.told la i = false) := Lib.hid (by unfold openAt; rw [hb]; simp)
          rw [hb] at ci
          clear hb
          go_wp2_with fail
          go_meet
          case rel => exact ⟨by rw [HOB.out], rfl⟩
        | false =>
          have HOB : Hid (openAt s.told la i = true) := Lib.hid (openAt_iff.2 ⟨hil, hb⟩)
          rw [hb] at ci
          clear hb
          go_wp2_with fail
          go_meet
          case rel => exact ⟨by rw [HOB.out], rfl⟩
      · have hil' : decide ((i : Int) < (la : Int)) = false := by simp; omega
        have HOB : Hid (openAt s.told la i = false) := Lib.hid (by unfold openAt; rw [decide_eq_false hil]; rfl)
        have hil2 : (la : Int) ≤ (i : Int) := by omega
        go_wp2_with fail
        go_meet
        case rel => exact ⟨by rw [HOB.out], rfl⟩
     case rest =>
      obtain ⟨rfl, rfl⟩ := hcut
      obtain ⟨ob, hob⟩ : ∃ b, openAt s.told la i = b := ⟨_, rfl⟩
      have HOB := Lib.hid hob
      rw [hob]
      obtain ⟨wr, hwr⟩ : ∃ wr : World, wr = wc := ⟨_, rfl⟩
      subst hwr
      clear hob
      repeat ((fail_if_success (with_reducible refine stop_at 19 ?_)); first | fail | go_values | go_skip | go_guarded | go_step | go_upon | go_back | go_simp)
      go_cut [6, 8] (fun s6 s8 wx => ∃ (k : Nat) (A : Option Addr) (P : List Pc) (f : Int), s8 = .int .i64 f ∧ s6 = .slice A P.length k ∧ ScIn w5 wx s i A k P f ∧ ScGo s i f)
      case first =>
       rcases hbd with rfl | ⟨a, rfl, ha1, ha2, ha3⟩
       · go_wp2_with fail
         go_meet
         case rel => exact ⟨k, A, P, -1, rfl, by rw [HM6.out], HSC.out, Or.inl rfl⟩
       · have ha0 : (0 : Int) ≤ (a : Int) := by omega
         have hai : (a : Int) ≤ (i : Int) := by omega
         have hid : (i : Int) ≤ (s.data.size : Int) := by omega
         have hwia : IntKind.i64.wrap ((i : Int) - (a : Int)) = (i : Int) - (a : Int) := IntWalk.i64_in _ (by omega)
         cases ob with
         | false =>
           have HCL : Hid (openAt s.told la i = false ∨ i - a = 20) := Lib.hid (Or.inl HOB.out)
           by_cases h3 : m6 < 3
           · have h3' : (m6 : Int) < 3 := by omega
             obtain ⟨es, hes⟩ : ∃ es, P.map pcRow = es := ⟨_, rfl⟩
             have HES : Hid (es.length = m6) := Lib.hid (by rw [← hes, List.length_map]; exact HM6.out)
             have HEQ := Lib.hid hes
             have HLS : Hid (Lst wr 98 2 (.slice A m6 k) es) := Lib.hid (by have := HSC.out.ls; rw [hes, HM6.out] at this; exact this)
             clear hes
             go_wp2_with (at_builtin; refine wpList_push rfl _ _ 95 rfl 98 2 24 Tryz.elPc (.slice A m6 k) es rfl (HLS.out.alloc _) wr.heap.size 1 [.int .i64 a, .string (s.data.extract a i)] rfl rfl (pcRow_one ⟨a, s.data.extract a i⟩).2 (BlockIs.fresh _ _ _) (by rw [HES.out]; omega) ?_; intro q9 c9 w9 hl9 ho9 hq9 hlt9; rw [HES.out] at hl9; rw [HES.out])
             go_meet
             case rel => exact ⟨c9, some ⟨q9, 0, none⟩, P ++ [⟨a, s.data.extract a i⟩], -1, rfl, by rw [List.length_append, HM6.out]; rfl, HSC.out.push (by rw [HLA.out]; exact HCL.out) (by rw [HM6.out]; exact h3) (by rw [HEQ.out, HM6.out]; exact hl9) (by rw [HM6.out]; exact ho9) (by rw [HM6.out]; exact hq9), Or.inl rfl⟩
           · have h3' : decide ((m6 : Int) < 3) = false := by simp; omega
             go_wp2_with fail
             go_meet
             case rel => exact ⟨k, A, P, -1, rfl, by rw [HM6.out], HSC.out.as (HSC.out.sc.drop (by rw [HM6.out]; exact h3)), Or.inl rfl⟩
         | true =>
           by_cases h20 : i - a = 20
           · have HCL : Hid (openAt s.told la i = false ∨ i - a = 20) := Lib.hid (Or.inr h20)
             have h20' : (((i : Int) - (a : Int)) == 20) = true := by rw [beq_iff_eq]; omega
             have h20w : (wrap64 ((i : Int) - (a : Int)) == 20) = true := by rw [beq_iff_eq]; unfold wrap64; omega
             by_cases h3 : m6 < 3
             · have h3' : (m6 : Int) < 3 := by omega
               obtain ⟨es, hes⟩ : ∃ es, P.map pcRow = es := ⟨_, rfl⟩
               have HES : Hid (es.length = m6) := Lib.hid (by rw [← hes, List.length_map]; exact HM6.out)
               have HEQ := Lib.hid hes
               have HLS : Hid (Lst wr 98 2 (.slice A m6 k) es) := Lib.hid (by have := HSC.out.ls; rw [hes, HM6.out] at this; exact this)
               clear hes
               go_wp2_with (at_builtin; refine wpList_push rfl _ _ 95 rfl 98 2 24 Tryz.elPc (.slice A m6 k) es rfl (HLS.out.alloc _) wr.heap.size 1 [.int .i64 a, .string (s.data.extract a i)] rfl rfl (pcRow_one ⟨a, s.data.extract a i⟩).2 (BlockIs.fresh _ _ _) (by rw [HES.out]; omega) ?_; intro q9 c9 w9 hl9 ho9 hq9 hlt9; rw [HES.out] at hl9; rw [HES.out])
               go_meet
               case rel => exact ⟨c9, some ⟨q9, 0, none⟩, P ++ [⟨a, s.data.extract a i⟩], -1, rfl, by rw [List.length_append, HM6.out]; rfl, HSC.out.push (by rw [HLA.out]; exact HCL.out) (by rw [HM6.out]; exact h3) (by rw [HEQ.out, HM6.out]; exact hl9) (by rw [HM6.out]; exact ho9) (by rw [HM6.out]; exact hq9), Or.inl rfl⟩
             · have h3' : decide ((m6 : Int) < 3) = false := by simp; omega
               go_wp2_with fail
               go_meet
               case rel => exact ⟨k, A, P, -1, rfl, by rw [HM6.out], HSC.out.as (HSC.out.sc.drop (by rw [HM6.out]; exact h3)), Or.inl rfl⟩
           · have h20' : (((i : Int) - (a : Int)) == 20) = false := by rw [beq_eq_false_iff_ne]; omega
             go_wp2_with fail
             go_meet
             case rel => exact ⟨k, A, P, a, rfl, by rw [HM6.out], HSC.out, Or.inr ⟨a, rfl, by rw [HLA.out]; exact HOB.out, h20⟩⟩
      case rest =>
       clear HSC HM6 hP3 hbd
       obtain ⟨k, A, P, f, rfl, rfl, hsc, hgo⟩ := hcut
       have HSC := Lib.hid hsc
       rcases hgo with rfl | ⟨a, rfl, ho, h20⟩
       · clear hsc
         cases ob with
         | true =>
           have HN := Lib.hid (HSC.out.as (HSC.out.sc.begin_ (by rw [HLA.out]; exact HOB.out)))
           go_wp2_with fail
           go_roundw
           case rel => exact ⟨i + 1, k, A, P, i, by go_num, rfl, rfl, by omega, HN.out⟩
           case measure => simp [intOf]; omega
         | false =>
           have HN := Lib.hid (HSC.out.as (HSC.out.sc.skip (by rw [HLA.out]; exact HOB.out)))
           go_wp2_with fail
           go_roundw
           case rel => exact ⟨i + 1, k, A, P, -1, by go_num, rfl, rfl, by omega, HN.out⟩
           case measure => simp [intOf]; omega
       · have HN := Lib.hid (HSC.out.as (HSC.out.sc.goes ho h20))
         rw [HLA.out, HOB.out] at ho
         subst ho
         have ha0 : decide ((a : Int) < 0) = false := by simp
         clear hsc h20
         go_wp2_with fail
         go_roundw
         case rel => exact ⟨i + 1, k, A, P, a, by go_num, rfl, rfl, by omega, HN.out⟩
         case measure => simp [intOf]; omega
    case neg =>
     have hle' : decide ((i : Int) ≤ (la : Int)) = false := by simp; omega
     have hle2 : (la : Int) < (i : Int) := by omega
     have HD : Hid (P = s.pieces) := Lib.hid (by
      have h1 := HSC.out.sc
      rw [show i = s.last + 1 by rw [HLA.out]; omega] at h1
      exact h1.done)
     have HP6 : Hid (Lst wr 98 2 (.slice A m6 k) (s.pieces.map pcRow)) := Lib.hid (by have := HSC.out.ls; rw [HM6.out, HD.out] at this; exact this)
     have HNP : Hid (s.pieces.length = m6) := Lib.hid (by rw [← HD.out]; exact HM6.out)
     have HKW : Hid (∀ q, q ∈ blocks (.slice A 0 0) → w.heap.size ≤ q) := Lib.hid (fun q hq => Nat.le_trans hs5.size (HSC.out.nw q hq))
     have HF6 := Lib.hid (HF5.out.later HSC.out.since)
     clear HF5 x0 x61 lxr HTT HSC HD HM6 hbd
     obtain ⟨np, hnp⟩ : ∃ np, np = m6 := ⟨_, rfl⟩
     subst hnp
     obtain ⟨Ap, hAp⟩ : ∃ Ap, Ap = A := ⟨_, rfl⟩
     subst hAp
     obtain ⟨cp, hcp⟩ : ∃ cp, cp = k := ⟨_, rfl⟩
     subst hcp
     go_wp2_with fail
     go_loopw [3, 11] (fun s3 s11 wr => ∃ (j k : Nat) (A : Option Addr) (Ms : List FrmV), s11 = .int .i64 j ∧ j ≤ np ∧ s3 = .slice A (m + 1 + j) k ∧ Ms.length = m + 1 + j ∧ FlSt w wr A k Ms ∧ Ms.map (·.f) = ackFs s.came ++ ⟨4, [s.L], ByteArray.empty⟩ :: (s.pieces.take j).map pcFrm ∧ Lst wr 98 2 (.slice Ap np cp) (s.pieces.map pcRow)) (fun s3 s11 _ => np - (intOf s11).toNat)
     case atStart => exact ⟨0, cq, some ⟨q, 0, none⟩, M5, rfl, Nat.zero_le _, rfl, HL5.out, HF6.out, by rw [HM5.out, List.take_zero]; rfl, HP6.out⟩
     case round =>
      obtain ⟨j, k2, A3, Mj, rfl, hj, rfl, hmj, hfj, hmm, hsj⟩ := hrel
      have HFJ := Lib.hid hfj
      have HMJ := Lib.hid hmm
      have HLJ := Lib.hid hmj
      clear hfj hmm hmj
      by_cases hlt : j < np
      case neg =>
       obtain rfl : j = np := by omega
       have hlt' : decide ((j : Int) < (j : Int)) = false := by simp
       go_upto_region 29 with fail
       have hsr : Since w wr := HFJ.out.since
       obtain ⟨d62, d63, -, -, lx, -⟩ := HX.out wr hsr
       rw [HMV.out] at d62
       have hfrm : Mj.map (·.f) = s.frames := by rw [HMJ.out, show s.pieces.take j = s.pieces by rw [← HNP.out, List.take_length]]; rfl
       obtain ⟨pk1, pk2, pk3⟩ := H.out.ok.packetOk (by omega)
       have HPK : Hid (∀ X, Since wr X → Calls Tryz.prog 52 #[.int .i64 s.made.length, .int .i64 s.known, .slice A3 (m + 1 + j) k2] X fun e w' => e = .returned (.tuple #[.string ⟨s.packet.toArray⟩, .int .i64 0]) ∧ Below X.heap.size X w') := Lib.hid (fun X hX => by
        have hkn := H.out.ok.kn
        have h1 := rpacket (s.made.length : Int) s.known A3 (m + 1 + j) k2 Mj X (by omega) (by omega) HLJ.out (by have := (HFJ.out.later hX).frms; rw [HLJ.out] at this; exact this)
        rw [hfrm] at h1
        rw [pk1] at h1
        unfold pktV at h1
        rw [if_pos pk1] at h1
        exact h1)
       clear hfrm pk1 pk2 pk3
       go_region_law (go_simp; go_at_call 52; refine (HPK.out _ (show Since wr _ from (by exact Since.drew (Since.refl _)))).mono ?_; rintro e w7 ⟨rfl, hb7⟩; have HS7 := Lib.hid (show Since wr w7 from (by exact Since.later (Since.drew (Since.refl _)) hb7)); clear hb7)
       all_goals
        have hs7 : Since w w7 := hsr.later HS7.out
        obtain ⟨e62, -, -, -, lx7, -⟩ := HX.out w7 hs7
        rw [HMV.out] at e62
        have HO7 : Hid (Own w S w7 (rnParts g s p ++ [Thing.lst 98 2 (.slice Ap j cp) (s.pieces.map pcRow)])) := Lib.hid (H.out.own.add hs7 (S := blocks (.slice Ap j cp)) ⟨hsj.later HS7.out, rfl⟩ (fun k hk => HKW.out k (blocks_any Ap _ _ _ _ ▸ hk)))
        have fz7 : ∀ i, w7.frozen? ⟨g, i, none⟩ = false := (HO7.out.blk 0 rfl).free
        obtain ⟨es, hes⟩ : ∃ es, (p.vs.map fun v => [v]) = es := ⟨_, rfl⟩
        have HES : Hid (es.length = s.made.length) := Lib.hid (by rw [← hes, List.length_map]; exact H.out.len)
        have HL7 : Hid (Lst w7 95 1 (.slice Am s.made.length cm) es) := Lib.hid (by have := HO7.out.ls 3 rfl; rw [hes, HMV.out] at this; exact this)
        have HEQ := Lib.hid hes
        clear hes d62 d63
        go_wp2_with (at_builtin; refine wpList_push rfl _ _ 43 rfl 95 1 24 Tryz.elPcs (.slice Am s.made.length cm) es rfl (HL7.out.alloc _) w7.heap.size 1 [.slice Ap j cp] rfl rfl (by intro u hu; simp at hu; rw [hu]; rfl) (BlockIs.fresh _ _ _) (by rw [HES.out]; omega) ?_; intro q8 c8 w8 hl8 ho8 hq8 hlt8; rw [HES.out] at hl8; rw [HES.out]; have hb8 := ho8.block' ((HO7.out.blk 0 rfl).alloc _) (HL7.out.apart (HO7.out.blk 0 rfl) (by decide)); have x62 : w8.cell? ⟨g, 62, none⟩ = some p.mv := (hb8.cell 62).trans (enCells_tail _ _ _ _ H.out.ok.tl 1); have fz8 := hb8.free; have lx8 := hb8.lt)
        have HO8 : Hid (Own w S w8 ((rnParts g s p ++ [Thing.lst 98 2 (.slice Ap j cp) (s.pieces.map pcRow)]).set 3 (Thing.lst 95 1 (.slice (some ⟨q8, 0, none⟩) (s.made.length + 1) c8) (es ++ [[.slice Ap j cp]])))) := Lib.hid (by
         obtain ⟨S3, ⟨h3, h3'⟩, up⟩ := (HO7.out.later ((Since.refl w7).alloc (.cells #[.slice Ap j cp] 95))).at_ 3 rfl
         have hS3 : S3 = blocks (.slice Am s.made.length cm) := by rw [h3', HMV.out]
         refine up w8 _ ⟨blocks (.slice (some ⟨q8, 0, none⟩) (s.made.length + 1) c8), ⟨hl8, rfl⟩, by rw [hS3]; exact ho8, fun k hk => ?_⟩
         have e8 : k = q8 := by rw [blocks_at] at hk; simpa using hk
         subst e8
         rcases hq8 with h9 | h9
         · left; rw [hS3]; exact h9
         · right; rw [h9]; exact Nat.le_refl _)
        have HO9 := Lib.hid (HO8.out.put 0 rfl 62 (.slice (some ⟨q8, 0, none⟩) (s.made.length + 1) c8))
        clear hb8 hl8 ho8 hq8
        go_wp2_with fail
        go_ret
        refine ⟨rfl, rnT_close (p := ⟨p.gi, p.gl, .slice (some ⟨q8, 0, none⟩) (s.made.length + 1) c8, p.cv, p.vs ++ [.slice Ap j cp]⟩) H.out.ok.make (by show (p.vs ++ [_]).length = (s.made ++ [_]).length; simp [H.out.len]) ?_⟩
        have h9 := HO9.out
        rw [enCells_62 _ _ _ _ H.out.ok.tl] at h9
        have e9 : rnParts g s.make ⟨p.gi, p.gl, .slice (some ⟨q8, 0, none⟩) (s.made.length + 1) c8, p.cv, p.vs ++ [.slice Ap j cp]⟩ = ((rnParts g s p ++ [Thing.lst 98 2 (.slice Ap j cp) (s.pieces.map pcRow)]).set 3 (Thing.lst 95 1 (.slice (some ⟨q8, 0, none⟩) (s.made.length + 1) c8) (es ++ [[.slice Ap j cp]]))).set 0 (Thing.block g 48 (enCells s (.slice (some ⟨q8, 0, none⟩) (s.made.length + 1) c8) p.cv p.gi p.gl).toArray) := by
         have e1 : inner (p.vs ++ [.slice Ap j cp]) (s.made ++ [s.pieces]) = inner p.vs s.made ++ [Thing.lst 98 2 (.slice Ap j cp) (s.pieces.map pcRow)] := inner_snoc _ _ H.out.len
         have e2 : (p.vs ++ [Value.slice Ap j cp]).map (fun v => [v]) = es ++ [[.slice Ap j cp]] := by rw [List.map_append, HEQ.out]; rfl
         show Thing.block _ _ _ :: Thing.block _ _ _ :: Thing.block _ _ _ :: Thing.lst _ _ _ ((p.vs ++ [Value.slice Ap j cp]).map (fun v => [v])) :: Thing.lst _ _ _ _ :: inner (p.vs ++ [.slice Ap j cp]) (s.made ++ [s.pieces]) = _
         rw [e1, e2]
         rfl
        rw [e9]
        exact h9
      have hjp : j < s.pieces.length := by rw [HNP.out]; exact hlt
      have hl6 := hsj
      have HSJ := Lib.hid hsj
      obtain ⟨b2, hA2, lb2, p0, p1⟩ := hl6.pc hjp
      have hpc := H.out.ok.piece (List.getElem_mem hjp)
      have hla3 := H.out.ok.last
      have HTK := Lib.hid (List.take_succ_eq_append_getElem hjp)
      obtain ⟨⟨a, d⟩, hpp⟩ : ∃ x, s.pieces[j] = x := ⟨_, rfl⟩
      rw [hpp] at p0 p1 HTK hpc
      dsimp only at p0 p1 hpc
      have hd20 : d.size ≤ 20 := hpc.1.2.2
      have ha60 : a ≤ 60 := by have := hpc.1.1; omega
      have hlt' : (j : Int) < (np : Int) := by omega
      have hmj5 : m + 1 + j ≤ 5 := by omega
      obtain ⟨es, hes⟩ : ∃ es, Mj.map frmRow = es := ⟨_, rfl⟩
      have HES : Hid (es.length = m + 1 + j) := Lib.hid (by rw [← hes, List.length_map]; exact HLJ.out)
      have HEQ := Lib.hid hes
      have HLS : Hid (Lst wr 93 3 (.slice A3 (m + 1 + j) k2) es) := Lib.hid (by have := HFJ.out.ls; rw [hes, HLJ.out] at this; exact this)
      subst hA2
      clear hl6 hpc hla3 hpp hes hjp
      obtain ⟨mm, hmm⟩ : ∃ x, m + 1 + j = x := ⟨_, rfl⟩
      have HMM := Lib.hid hmm
      rw [hmm] at HES HLS hmj5 HLJ
      rw [hmm]
      clear hmm
      go_upto_region 28 with fail
      go_region_law (refine step_push rfl _ _ 91 rfl 93 3 48 Tryz.elFrm (.slice A3 mm k2) es rfl ?_ (wr.heap.size + 1) 1 [.int .i64 3, .slice (some ⟨wr.heap.size, 0, none⟩) 1 1, .string d] rfl rfl (by intro u hu; simp at hu; rcases hu with rfl | rfl | rfl <;> rfl) ?_ ?_ ?_; (first | exact ((HLS.out.alloc _).alloc _).drew | exact ((HLS.out.alloc _).drew).alloc _ | exact (HLS.out.drew.alloc _).alloc _); (first | exact BlockIs.fresh_at (by simp) | exact (BlockIs.fresh_at (by simp)).drew); (rw [HES.out]; omega); intro q9 c9 w9 hl9 ho9 hq9 hlt9; rw [HES.out] at hl9; (try rw [HES.out]))
      all_goals
       have HF9 : Hid (FlSt w w9 (some ⟨q9, 0, none⟩) c9 (Mj ++ [⟨⟨3, [(a : Int)], d⟩, some ⟨wr.heap.size, 0, none⟩, 1⟩])) := Lib.hid (by
        have hX : Below wr.heap.size wr ((wr.drew.alloc (.cells #[.int .i64 a] 3)).alloc (.cells #[.int .i64 3, .slice (some ⟨wr.heap.size, 0, none⟩) 1 1, .string d] 93)) := (show Since wr _ from (by exact Since.alloc (Since.alloc (Since.drew (Since.refl _)) _) _))
        refine HFJ.out.step (g := ⟨⟨3, [(a : Int)], d⟩, some ⟨wr.heap.size, 0, none⟩, 1⟩) hX ⟨show -9223372036854775808 ≤ (3 : Int) ∧ (3 : Int) ≤ 9223372036854775807 by decide, by show d.size ≤ maxLen; simp [maxLen]; omega, ints_one ((BlockIs.fresh_at (by simp)).alloc _) (by omega)⟩ (newA_at (by omega)) ?_ ?_ ?_
        · rw [HLJ.out, HEQ.out]; exact hl9
        · rw [HLJ.out]; exact ho9
        · rw [HLJ.out]; exact hq9)
       have hs9 : Lst w9 98 2 (.slice (some ⟨b2, 0, none⟩) np cp) (s.pieces.map pcRow) := ((HSJ.out.drew.alloc _).alloc _).kept ho9 (HSJ.out.apart2 HLS.out (by decide))
       clear hl9 ho9 hq9
       go_wp2_with fail
       go_roundw
       case rel => exact ⟨j + 1, c9, some ⟨q9, 0, none⟩, _, by go_num, by omega, by have := HMM.out; rw [← this]; rfl, by rw [List.length_append, HLJ.out]; have := HMM.out; simp; omega, HF9.out, by rw [List.map_append, HMJ.out, HTK.out, List.map_append]; simp [pcFrm], hs9⟩
       case measure => simp [intOf]; omega
end Go.Proofs.YtmfbaijbigodkaaGreatDoor
