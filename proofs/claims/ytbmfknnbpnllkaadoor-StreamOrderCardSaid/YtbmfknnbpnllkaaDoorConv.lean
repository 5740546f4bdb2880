/- A string made of bytes in memory, from any place of a block on. No condition but that the cells hold these bytes. -/
import Derived.Test.YtbmfknnbpnllkaaDoorBase
import Derived.Laws.BytesString
namespace Go.Proofs.YtbmfknnbpnllkaaDoor
open Go.ChangeShapes Go.WideShapes Go.ChangeAt Go.RowKit
set_option linter.unusedVariables false

theorem addr_off (g o i : Nat) : (⟨g, o, none⟩ : Addr).add i = ⟨g, o + i, none⟩ := by
  unfold Addr.add
  split
  · rename_i h; rw [h]; rfl
  · rfl
theorem conv_at {W : World} {g o n c : Nat} {bs : List UInt8} (hn : bs.length = n) (h : ∀ (j : Nat) b, bs[j]? = some b → W.cell? ⟨g, o + j, none⟩ = some (.int .u8 (b.toNat : Int))) :
    (convert 99 9 (.slice (some ⟨g, o, none⟩) n c)).run Tryd.prog W = .ok (.string ⟨bs.toArray⟩) W := by
  subst hn
  rw [run_convert_bytes_string W 99 9 5 (some ⟨g, o, none⟩) bs.length c Tryd.underlying99 Tryd.underlying5 Tryd.underlying9]
  have hl := run_loadCells_list (P := Tryd.prog) W ⟨g, o, none⟩ ((bs.map fun b => (b.toNat : Int)).map (Value.int .u8)) (fun j v hj => by
    rw [addr_off]
    simp only [List.getElem?_map, Option.map_map] at hj
    cases hb : bs[j]? with
    | none => rw [hb] at hj; simp at hj
    | some b => rw [hb] at hj; simp at hj; rw [← hj]; exact h j b hb)
  simp only [List.length_map] at hl
  rw [run_bytesToString W ⟨g, o, none⟩ bs.length c (bs.map fun b => (b.toNat : Int)) hl]
  have e : ∀ (l : List UInt8) (r : ByteArray), (l.map fun b => (b.toNat : Int)).foldl (fun r n => r.push (UInt8.ofNat n.toNat)) r = ⟨r.data ++ l.toArray⟩ := by
    intro l
    induction l with
    | nil => intro r; simp
    | cons x l ih => intro r; rw [List.map_cons, List.foldl_cons, ih]; simp [ByteArray.push]
  rw [e bs]
  have he0 : ByteArray.empty.data = #[] := rfl
  rw [he0]
  simp
theorem conv_none {W : World} {c : Nat} : (convert 99 9 (.slice none 0 c)).run Tryd.prog W = .ok (.string ⟨#[]⟩) W := by
  rw [run_convert_bytes_string W 99 9 5 none 0 c Tryd.underlying99 Tryd.underlying5 Tryd.underlying9]
  rfl
end Go.Proofs.YtbmfknnbpnllkaaDoor
