/- TalkSilent: for every window and count the law returns true: where nothing is written, nothing is read, whatever is sent, and every packet comes. Condition: the tables of kinds and counts hold what the program's text lays (the row lists them, the card ties them). -/
import Derived.Test.YtaindcicloapfaaDoorZG
import Derived.Test.YtaindcicloapfaaDoorCards
import Derived.Test.YtaindcicloapfaaDoorTie
import Derived.Deep.DeepHandedRow
import Derived.LaidLaws
import Derived.LaidHandle
import Derived.Deep.DeepWitnessRowRef
import Derived.Test.YtaindcicloapfaaDoorRows
import Derived.WalkKit
import Derived.ProofKit
import Derived.OpenShut
import Derived.ShutString
import Derived.ChangeOld
import Derived.Below
import Derived.Lib.SmallJoins
import Derived.Deep.Slices
import Derived.Deep.Matrix
import Derived.Deep.Strs
namespace Go.Proofs.YtaindcicloapfaaDoor.talkSilent
open Go.ChangeShapes Go.WideShapes Go.ChangeAt Go.RowKit
open Go.ChangeMaps (open_string shut_string)
set_option linter.unusedVariables false

noncomputable abbrev laidWorld := YtaindcicloapfaaDoor.laidWorld2
theorem laidMetW (os : Os) (args : Array Value) : laidMetH Tryd.prog Rows.talkSilentRow.laid ((laidWorld os).forCall (fun _ _ => 0) ⟨#[], args, []⟩).memory := laidMet_kc os args
theorem laidWalk {W : World} (h : laidMetH Tryd.prog Rows.talkSilentRow.laid W) : KTab W ∧ CTab W := laid_kc h
/-- two who wrote nothing, x is next -/
structure Sil (x y : EnS) (i : Nat) : Prop where
  pr : Pair x y
  gx : Gaps y.came x.made.length 0
  gy : Gaps x.came y.made.length 0
  dx : x.data.size = 0
  dy : y.data.size = 0
  mx : x.made.length ≤ i
  my : y.made.length ≤ i
theorem Sil.start {n : Int} (h1 : 1 ≤ n) (h2 : n ≤ 1000) : Sil (EnS.new n) (EnS.new n) 0 := ⟨Pair.new h1 h2, Gaps.new, Gaps.new, rfl, rfl, Nat.le_refl _, Nat.le_refl _⟩
theorem Sil.next {x y : EnS} {i : Nat} (h : Sil x y i) (hi : i ≤ 1000) : y.takeE x.packet = 0 ∧ (y.take x.packet).readS 60 = ⟨#[]⟩ ∧ Sil (y.hear x) x.make (i + 1) := by
  have hmx : x.made.length ≤ 1000000 := by have := h.mx; omega
  have ha := h.gx.fits h.pr.oy.cm hmx (by omega)
  have n4 := not4 h.pr hmx ha
  obtain ⟨e0, C', M', c, hp, hf, hM⟩ := send_take h.pr hmx n4
  obtain ⟨f1, f2, f3, f4, f5, f6, f7, f8, f9⟩ := got_fields y x.made.length x.came x.L C' M'
  obtain ⟨x1, x2, x3, x4, x5, x6, x7⟩ := exchange h.pr hmx n4
  obtain ⟨r1, r2, r3, r4, r5, r6⟩ := read_rest (y := y.take x.packet) 60
  have hl : (x.make.made).length = x.made.length + 1 := by show (x.made ++ [x.pieces]).length = _; rw [List.length_append]; rfl
  have hrt := read_text hp 60
  have hrt2 := read_text x1.symm 60
  refine ⟨e0, ?_, ⟨x1, ?_, ?_, ?_, h.dx, ?_, ?_⟩⟩
  · have h1 := congrArg ByteArray.size hrt.2
    have hz : x.make.data.size = 0 := h.dx
    have ht : ((y.take x.packet).read 60).t ≤ 0 := by
      have : (y.hear x).t ≤ x.make.data.size := hrt2.1
      rw [hz] at this
      exact this
    rw [ByteArray.size_append, ByteArray.size_extract, ByteArray.size_extract] at h1
    have h0 : ((y.take x.packet).readS 60).size = 0 := by omega
    exact ByteArray.size_eq_zero_iff.1 h0
  · show Gaps x.came (y.hear x).made.length 0
    rw [x5]; exact h.gy
  · show Gaps (y.hear x).came x.make.made.length 0
    rw [hl]
    show Gaps ((y.take x.packet).read 60).came _ 0
    rw [r6, c, f6]
    exact h.gx.come h.pr.oy.cm ha (came_lt h.pr.xy)
  · rw [x4]; exact h.dy
  · rw [x5]; have := h.my; omega
  · rw [hl]; have := h.mx; omega
/-- the talk behind i letters -/
def Turn (s : TkS) (i : Nat) : Prop := s.L = [] ∧ (if i % 2 = 0 then Sil s.e0 s.e1 i else Sil s.e1 s.e0 i)
theorem Turn.start {n : Int} (h1 : 1 ≤ n) (h2 : n ≤ 1000) : Turn (TkS.new n) 0 := ⟨rfl, Sil.start h1 h2⟩
theorem bytes_list (l : List UInt8) : (⟨l.toArray⟩ : ByteArray).data.toList = l := by simp
theorem Turn.next {s : TkS} {i : Nat} (h : Turn s i) (hi : i ≤ 900) :
    (s.e ((i : Int) % 2)).made.length ≤ 1000 ∧ s.sendE ((i : Int) % 2) = 0 ∧ (s.send ((i : Int) % 2)).e0.made.length ≤ 1000 ∧ (s.send ((i : Int) % 2)).e1.made.length ≤ 1000 ∧
    (s.send ((i : Int) % 2)).comeE 0 = 0 ∧ TkS.readE (1 - (i : Int) % 2) 60 = 0 ∧ ((s.send ((i : Int) % 2)).come 0).readS (1 - (i : Int) % 2) 60 = ⟨#[]⟩ ∧
    Turn (((s.send ((i : Int) % 2)).come 0).read (1 - (i : Int) % 2) 60) (i + 1) := by
  obtain ⟨L, a, b⟩ := s
  obtain ⟨rfl, h⟩ := h
  rcases Nat.mod_two_eq_zero_or_one i with h2 | h2
  · have e2 : (i : Int) % 2 = 0 := by omega
    have e3 : (i + 1) % 2 ≠ 0 := by omega
    rw [e2]
    rw [if_pos h2] at h
    change Sil a b i at h
    obtain ⟨n1, n2, n3⟩ := h.next (by omega)
    have hla : a.make.made.length = a.made.length + 1 := by show (a.made ++ [a.pieces]).length = _; rw [List.length_append]; rfl
    have hs : TkS.send ⟨[], a, b⟩ 0 = ⟨[⟨1, ⟨a.packet.toArray⟩⟩], a.make, b⟩ := rfl
    have hc : TkS.come ⟨[⟨1, ⟨a.packet.toArray⟩⟩], a.make, b⟩ 0 = ⟨[], a.make, b.take a.packet⟩ := by
      show TkS.mk [] a.make (b.take (ByteArray.mk a.packet.toArray).data.toList) = _
      rw [bytes_list]
    have hce : TkS.comeE ⟨[⟨1, ⟨a.packet.toArray⟩⟩], a.make, b⟩ 0 = b.takeE a.packet := by
      show b.takeE (ByteArray.mk a.packet.toArray).data.toList = _
      rw [bytes_list]
    rw [hs, hc, hce, n1]
    refine ⟨by show a.made.length ≤ 1000; have := h.mx; omega, rfl, by show a.make.made.length ≤ 1000; rw [hla]; have := h.mx; omega, by show b.made.length ≤ 1000; have := h.my; omega, rfl, rfl, n2, rfl, ?_⟩
    rw [if_neg e3]
    exact n3
  · have e2 : (i : Int) % 2 = 1 := by omega
    have e3 : (i + 1) % 2 = 0 := by omega
    rw [e2]
    rw [if_neg (by omega)] at h
    change Sil b a i at h
    obtain ⟨n1, n2, n3⟩ := h.next (by omega)
    have hla : b.make.made.length = b.made.length + 1 := by show (b.made ++ [b.pieces]).length = _; rw [List.length_append]; rfl
    have hs : TkS.send ⟨[], a, b⟩ 1 = ⟨[⟨0, ⟨b.packet.toArray⟩⟩], a, b.make⟩ := rfl
    have hc : TkS.come ⟨[⟨0, ⟨b.packet.toArray⟩⟩], a, b.make⟩ 0 = ⟨[], a.take b.packet, b.make⟩ := by
      show TkS.mk [] (a.take (ByteArray.mk b.packet.toArray).data.toList) b.make = _
      rw [bytes_list]
    have hce : TkS.comeE ⟨[⟨0, ⟨b.packet.toArray⟩⟩], a, b.make⟩ 0 = a.takeE b.packet := by
      show a.takeE (ByteArray.mk b.packet.toArray).data.toList = _
      rw [bytes_list]
    rw [hs, hc, hce, n1]
    refine ⟨by show b.made.length ≤ 1000; have := h.mx; omega, rfl, by show a.made.length ≤ 1000; have := h.my; omega, by show b.make.made.length ≤ 1000; rw [hla]; have := h.mx; omega, rfl, rfl, n2, rfl, ?_⟩
    rw [if_pos e3]
    exact n3
theorem tabs {w w1 : World} {s : TkS} {g : Nat} (hK : KTab w) (hC : CTab w) (h : Own w [] w1 [talkT g s]) {S : List Nat} (up : ∀ (X : World) (t : Thing), Leaves w1 X S t → Own w [] X ([talkT g s].set 0 t)) :
    ∀ X, Out w1 X S → KTab X ∧ CTab X := fun X hX => by
  have o := up X ⟨fun _ S => S = [], fun h k hk => by rw [h] at hk; simp at hk, fun h _ _ => h⟩ ⟨[], rfl, hX, by simp⟩
  exact ⟨hK.later o.since, hC.later o.since⟩

set_option maxRecDepth 100000 in
set_option maxHeartbeats 3200000 in
theorem walk (n m : Int) (w : World) (w0 : (Lit.int .i64 n).wf = true) (w1 : (Lit.int .i64 m).wf = true) (hkc : KTab w ∧ CTab w) :
    Calls Tryd.prog 5 #[.int .i64 n, .int .i64 m] w fun e w' => e = .returned (.bool true) ∧ Below w.heap.size w w' := by
  have HK := Lib.hid hkc.1
  have HC := Lib.hid hkc.2
  clear hkc w0 w1
  go_enter Tryd.func5, Tryd.ntmps5
  go_wp2_with fail
  refine (tnew_no 0 (by decide) _).mono ?_
  rintro e w1 ⟨rfl, hb1⟩
  rw [errV_pos (show (1 : Int) ≠ 0 by decide)]
  have hs1 : Since w w1 := hb1
  by_cases hn : 1 ≤ n ∧ n ≤ 1000
  case neg =>
    by_cases h1 : n < 1
    · go_wp2_with fail
      refine (tnew_no n hn _).mono ?_
      rintro e w2 ⟨rfl, hb2⟩
      rw [errV_pos (show (1 : Int) ≠ 0 by decide)]
      clear hn
      go_wp2_with fail
      go_ret
      exact ⟨rfl, hs1.later hb2⟩
    · go_wp2_with fail
      refine (tnew_no n hn _).mono ?_
      rintro e w2 ⟨rfl, hb2⟩
      rw [errV_pos (show (1 : Int) ≠ 0 by decide)]
      have h1' : decide (n < 1) = false := by simpa using h1
      have h2 : 1000 < n := by omega
      clear hn h1
      go_wp2_with fail
      go_ret
      exact ⟨rfl, hs1.later hb2⟩
  obtain ⟨n1, n2⟩ := hn
  go_wp2_with fail
  refine (tnew n n1 n2 _).mono ?_
  rintro e w2 ⟨g, rfl, hl⟩
  have HW2 : Hid (Own w [] w2 [talkT g (TkS.new n)]) := Lib.hid (((Own.start w).later hb1).made hl)
  have HT0 : Hid (Turn (TkS.new n) 0) := Lib.hid (Turn.start n1 n2)
  clear hl hs1 hb1
  go_wp2_with fail
  go_loopw [9] (fun s8 wr => ∃ (i : Nat) (s : TkS), s8 = .int .i64 i ∧ i ≤ 30 ∧ Turn s i ∧ Own w [] wr [talkT g s]) (fun s8 _ => 30 - (intOf s8).toNat)
  case atStart => exact ⟨0, _, rfl, by omega, HT0.out, HW2.out⟩
  case round =>
    obtain ⟨i, s, rfl, hi, ht, hw⟩ := hrel
    have HW := Lib.hid hw
    have HT := Lib.hid ht
    clear hw ht HW2 HT0
    have hend : ∀ wx, Own w [] wx [talkT g s] → Calls Tryd.prog 20 #[.pointer (some ⟨g, 0, none⟩)] wx fun e w' => e = .returned (.int .i64 0) ∧ wx = w' := fun wx h => by
      obtain ⟨S, hS, -⟩ := h.at_ 0 rfl
      have := tcount g s wx S hS
      rw [HT.out.1] at this
      exact this
    have HEND := Lib.hid hend
    clear hend
    by_cases hm : (i : Int) < m
    case neg =>
      have hm' : decide ((i : Int) < m) = false := by simpa using hm
      clear hm
      go_wp2_with fail
      refine (HEND.out _ HW.out).mono ?_
      rintro e w3 ⟨rfl, rfl⟩
      go_wp2_with fail
      go_ret
      exact ⟨rfl, HW.out.since⟩
    by_cases h30 : i < 30
    case neg =>
      have h30' : decide ((i : Int) < 30) = false := by simp; omega
      clear h30
      go_wp2_with fail
      refine (HEND.out _ HW.out).mono ?_
      rintro e w3 ⟨rfl, rfl⟩
      go_wp2_with fail
      go_ret
      exact ⟨rfl, HW.out.since⟩
    have h30' : (i : Int) < 30 := by omega
    have HN := Lib.hid (HT.out.next (by omega))
    obtain ⟨S, hS, up⟩ := HW.out.at_ 0 rfl
    go_wp2_with fail
    refine (tsend g s _ _ S hS (HK.out.later HW.out.since) HN.out.1).mono ?_
    rintro e w3 ⟨rfl, hl⟩
    rw [HN.out.2.1, errV_zero]
    have HW3 := Lib.hid (up _ _ hl)
    clear hl HW hS up
    obtain ⟨S, hS, up⟩ := HW3.out.at_ 0 rfl
    go_wp2_with fail
    refine (tcome g _ 0 _ S hS (tabs HK.out HC.out HW3.out up) HN.out.2.2.1 HN.out.2.2.2.1).mono ?_
    rintro e w4 ⟨rfl, hl⟩
    rw [HN.out.2.2.2.2.1, errV_zero]
    have HW4 := Lib.hid (up _ _ hl)
    clear hl HW3 hS up
    obtain ⟨S, hS, up⟩ := HW4.out.at_ 0 rfl
    go_wp2_with fail
    refine (tread g _ _ 60 _ S hS).mono ?_
    rintro e w5 ⟨rfl, hl⟩
    rw [HN.out.2.2.2.2.2.1, HN.out.2.2.2.2.2.2.1, errV_zero]
    have HW5 := Lib.hid (up _ _ hl)
    clear hl HW4 hS up
    go_wp2_with fail
    go_roundw
    case rel => exact ⟨i + 1, _, by go_num, by omega, HN.out.2.2.2.2.2.2.2, HW5.out⟩
    case measure => simp [intOf]; omega

/-! the row -/
theorem own : ownKnob Tryd.prog.godebug = none := by kernel_rfl
theorem laidOut : laidOutB Tryd.prog = true := by kernel_rfl
set_option maxRecDepth 100000 in
theorem contract (H : Type) (enc : TypeId × Value → H) (W : World) (base : Nat) (args : Array Value) (ds gs : List (DataW H)) (before : List MemPlace)
    (hval : ∀ (j : Nat) t v, Tryd.f5.params[j]? = some t → args[j]? = some v → Value.okWide Tryd.prog W .any base t v)
    (hW : DataW.Whole enc Tryd.prog Tryd.f5.params.toList Rows.talkSilentSpec.vars false W args.toList ds gs before) (hL : laidMetH Tryd.prog Rows.talkSilentRow.laid W) :
    Calls Tryd.prog 5 args W fun e W' => ∃ v, e = .returned v ∧ Rows.talkSilentSpec.post enc Tryd.prog Tryd.f5 false true false false W args v W' := by
  have hW' := hW
  obtain ⟨p, q, hA0, hV, rfl, hfz, hnd⟩ := hW
  have hA : DataW.TrodAll enc Tryd.prog W 0 (fun _ => true) true Tryd.f5.params.toList args.toList ds p := hA0
  rw [Tryd.params5] at hA hval
  obtain ⟨v0, vs0, d0, ds0, p0, q0, hargs, rfl, rfl, h0, r0⟩ := trodAll_cons hA
  obtain ⟨v1, vs1, d1, ds1, p1, q1, rfl, rfl, rfl, h1, r1⟩ := trodAll_cons r0
  obtain ⟨rfl, rfl, rfl⟩ := trodAll_nil r1
  obtain rfl : args = #[v0, v1] := by cases args; simp_all
  obtain ⟨rfl, rfl⟩ := trodVars_none hV
  obtain ⟨a0, rfl, rfl, rfl, w0⟩ := open_int Tryd.underlying3 (hval 0 3 v0 rfl rfl) h0
  obtain ⟨a1, rfl, rfl, rfl, w1⟩ := open_int Tryd.underlying3 (hval 1 3 v1 rfl rfl) h1
  have lw := laidWalk hL
  refine (walk a0 a1 W w0 w1 lw).mono fun e W' ⟨he, bel⟩ => ?_
  subst he
  exact ⟨_, rfl, _, _, _, [], _, [], hW', trodAll_mk1 (shut_bool Tryd.underlying4 _), (trodAll_cons_mk (shut_int Tryd.underlying3 w0) (trodAll_cons_mk (shut_int Tryd.underlying3 w1) trodAll_mk0)), rfl, bel.frame _, fun h => by cases h⟩

theorem reads (os : Os) {H : Type} (enc : TypeId × Value → H) : ∃ places, DataW.whole enc Tryd.prog ((laidWorld os).forCall (fun _ _ => 0) ⟨#[], #[.int .i64 0, .int .i64 0], []⟩).memory Tryd.f5.params.toList Rows.talkSilentSpec.vars false (#[.int .i64 0, .int .i64 0] : Array Value).toList 8 = some ([.lit (.int .i64 0), .lit (.int .i64 0)], [], places) :=
  ⟨[], by kernel_rfl⟩
theorem laid_met (os : Os) : laidMetH Tryd.prog Rows.talkSilentRow.laid ((laidWorld os).forCall (fun _ _ => 0) ⟨#[], #[.int .i64 0, .int .i64 0], []⟩).memory := laidMetW os _

set_option maxRecDepth 100000 in
theorem lifted (os : Os) (started : os.Started) (H : Type) (enc : TypeId × Value → H) (F : Stop.Interp) :
    ReturnsInHanded {} Tryd.checked os 5 .any ((OpenSpec.ofChange Rows.talkSilentSpec).preRow enc Tryd.prog Tryd.f5 Rows.talkSilentRow.domain false Rows.talkSilentRow.laid) (((OpenSpec.ofChange Rows.talkSilentSpec).at F).post enc Tryd.prog Tryd.f5 false true false false) := by
  obtain ⟨places, hx⟩ := reads os enc
  refine returnsInHanded_of_row (C := Tryd.checked) (s := OpenSpec.ofChange Rows.talkSilentSpec) own started (by kernel_rfl) Tryd.func5
    (witness_row_at (enc := enc) (C := Tryd.checked) false (laidWorld os) #[.int .i64 0, .int .i64 0] rfl (by kernel_rfl) (by kernel_rfl) (by kernel_rfl)
      (OpenSpec.preRow_of_cond 8 hx (by kernel_rfl) (fun k hk => by cases hk) (by kernel_rfl) (laid_met os))) ?_
  intro W base args ds gs before hval hW _ _ _ hL _ _
  exact contract H enc W base args ds gs before hval hW hL

theorem said : Rows.TalkSilentSaid :=
  OpenClaim.holds_of_cond 5 Tryd.f5 rfl rfl rfl rfl rfl rfl rfl ⟨rfl, rfl, rfl, rfl, rfl⟩ rfl rfl rfl rfl rfl (by kernel_rfl) Tryd.func5 (by kernel_rfl)
    (of_decide_eq_true (by kernel_rfl)) (by unfold Func.isWrapper; first | (rw [if_pos (by decide +kernel)]; kernel_rfl) | (rw [if_neg (by decide +kernel)]; exact ⟨rfl, rfl⟩))
    (fun os started H enc _ F => by rw [OpenClaim.pre_eq_preRow]; exact lifted os started H enc F)

theorem plain (f : FuncId) (fn : Func) (hf : Tryd.pinned.checked.prog.funcNamed "wanderwire/wirelaw4.TalkSilent" = some f) (hfn : Tryd.pinned.checked.prog.funcs[f]? = some fn) :
    false = Tryd.pinned.checked.prog.looks [] ∧ ∀ (j : Nat) t, fn.params[j]? = some t → Tryd.pinned.checked.prog.wantsStandIn t = false := by
  obtain rfl : f = 5 := Option.some.inj ((show Tryd.prog.funcNamed "wanderwire/wirelaw4.TalkSilent" = some 5 by kernel_rfl).symm.trans hf) |>.symm
  obtain rfl : fn = Tryd.f5 := (Option.some.inj (Tryd.func5.symm.trans hfn)).symm
  refine ⟨by kernel_rfl, fun j t ht => ?_⟩
  rw [Tryd.params5] at ht
  have ht' := Array.mem_of_getElem? ht
  have hall : (([3, 3] : List Nat).all fun t => !Tryd.prog.wantsStandIn t) = true := by kernel_rfl
  have hq := List.all_eq_true.1 hall t (by simpa using ht')
  have hq2 : Tryd.prog.wantsStandIn t = false := by simpa using hq
  exact hq2

theorem card : Rows.TalkSilentCardSaid :=
  Claim7.holds_tied_plain_at .later [] _ _ _ _ said (fun _ h => by cases h) (by kernel_rfl) (fun _ h => by cases h) talkSilent_row_tie rfl ⟨rfl, rfl⟩ (by kernel_rfl) rfl plain (by kernel_rfl)
#print axioms card
end Go.Proofs.YtaindcicloapfaaDoor.talkSilent
