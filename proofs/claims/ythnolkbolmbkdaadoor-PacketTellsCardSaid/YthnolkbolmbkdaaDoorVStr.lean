/- A string made of one, two or four bytes in memory. No condition but that the cells hold bytes. -/
import Derived.Test.YthnolkbolmbkdaaDoorVarint
import Derived.Laws.BytesString
namespace Go.Proofs.YthnolkbolmbkdaaDoor
open Go.ChangeShapes Go.WideShapes Go.ChangeAt Go.RowKit
set_option linter.unusedVariables false

/-- does a cell hold a byte, and which? -/
def isU8 : Option Value → Bool
  | some (.int .u8 _) => true
  | _ => false
def cb : Option Value → UInt8
  | some (.int .u8 x) => byteOf x
  | _ => 0
theorem isU8_some (x : Int) : isU8 (some (.int .u8 x)) = true := rfl
theorem cb_some (x : Int) : cb (some (.int .u8 x)) = byteOf x := rfl
theorem isU8_out {o : Option Value} (h : isU8 o = true) : ∃ x, o = some (.int .u8 x) ∧ cb o = byteOf x := by
  match o, h with
  | some (.int .u8 x), _ => exact ⟨x, rfl, rfl⟩
theorem addr_at (g i : Nat) : (⟨g, 0, none⟩ : Addr).add i = ⟨g, i, none⟩ := by
  unfold Addr.add
  split
  · rename_i h; rw [h]
  · simp
theorem conv_of {W : World} {g c : Nat} {ns : List Int} (h : ∀ (j : Nat) v, (ns.map (Value.int .u8))[j]? = some v → W.cell? ⟨g, j, none⟩ = some v) :
    (convert 134 9 (.slice (some ⟨g, 0, none⟩) ns.length c)).run Tryd.prog W = .ok (.string ⟨(ns.map byteOf).toArray⟩) W := by
  rw [run_convert_bytes_string W 134 9 5 (some ⟨g, 0, none⟩) ns.length c Tryd.underlying134 Tryd.underlying5 Tryd.underlying9]
  have hl := run_loadCells_list (P := Tryd.prog) W ⟨g, 0, none⟩ (ns.map (Value.int .u8)) (fun j v hj => by rw [addr_at]; exact h j v hj)
  simp only [List.length_map] at hl
  rw [run_bytesToString W ⟨g, 0, none⟩ ns.length c ns hl]
  have e : ∀ (l : List Int) (r : ByteArray), l.foldl (fun r n => r.push (UInt8.ofNat n.toNat)) r = ⟨r.data ++ (l.map byteOf).toArray⟩ := by
    intro l
    induction l with
    | nil => intro r; simp
    | cons x l ih => intro r; rw [List.foldl_cons, ih]; simp [ByteArray.push, byteOf]
  rw [e ns]
  have he0 : ByteArray.empty.data = #[] := rfl
  rw [he0]
  simp
theorem conv1 (W : World) (g c : Nat) (h0 : isU8 (W.cell? ⟨g, 0, none⟩) = true) :
    (convert 134 9 (.slice (some ⟨g, 0, none⟩) 1 c)).run Tryd.prog W = .ok (.string ⟨#[cb (W.cell? ⟨g, 0, none⟩)]⟩) W := by
  obtain ⟨x, e0, c0⟩ := isU8_out h0
  rw [c0]
  exact conv_of (ns := [x]) (fun j v hj => by
    match j, hj with
    | 0, hj => simp at hj; rw [← hj]; exact e0
    | _ + 1, hj => simp at hj)
theorem conv2 (W : World) (g c : Nat) (h0 : isU8 (W.cell? ⟨g, 0, none⟩) = true) (h1 : isU8 (W.cell? ⟨g, 1, none⟩) = true) :
    (convert 134 9 (.slice (some ⟨g, 0, none⟩) 2 c)).run Tryd.prog W = .ok (.string ⟨#[cb (W.cell? ⟨g, 0, none⟩), cb (W.cell? ⟨g, 1, none⟩)]⟩) W := by
  obtain ⟨x, e0, c0⟩ := isU8_out h0
  obtain ⟨y, e1, c1⟩ := isU8_out h1
  rw [c0, c1]
  exact conv_of (ns := [x, y]) (fun j v hj => by
    match j, hj with
    | 0, hj => simp at hj; rw [← hj]; exact e0
    | 1, hj => simp at hj; rw [← hj]; exact e1
    | _ + 2, hj => simp at hj)
theorem conv4 (W : World) (g c : Nat) (h0 : isU8 (W.cell? ⟨g, 0, none⟩) = true) (h1 : isU8 (W.cell? ⟨g, 1, none⟩) = true) (h2 : isU8 (W.cell? ⟨g, 2, none⟩) = true) (h3 : isU8 (W.cell? ⟨g, 3, none⟩) = true) :
    (convert 134 9 (.slice (some ⟨g, 0, none⟩) 4 c)).run Tryd.prog W = .ok (.string ⟨#[cb (W.cell? ⟨g, 0, none⟩), cb (W.cell? ⟨g, 1, none⟩), cb (W.cell? ⟨g, 2, none⟩), cb (W.cell? ⟨g, 3, none⟩)]⟩) W := by
  obtain ⟨x, e0, c0⟩ := isU8_out h0
  obtain ⟨y, e1, c1⟩ := isU8_out h1
  obtain ⟨z, e2, c2⟩ := isU8_out h2
  obtain ⟨t, e3, c3⟩ := isU8_out h3
  rw [c0, c1, c2, c3]
  exact conv_of (ns := [x, y, z, t]) (fun j v hj => by
    match j, hj with
    | 0, hj => simp at hj; rw [← hj]; exact e0
    | 1, hj => simp at hj; rw [← hj]; exact e1
    | 2, hj => simp at hj; rw [← hj]; exact e2
    | 3, hj => simp at hj; rw [← hj]; exact e3
    | _ + 4, hj => simp at hj)
end Go.Proofs.YthnolkbolmbkdaaDoor
