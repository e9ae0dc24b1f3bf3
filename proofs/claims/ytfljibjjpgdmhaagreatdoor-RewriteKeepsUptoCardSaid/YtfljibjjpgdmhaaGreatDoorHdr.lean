/- Lists of headers that came in: what their cells hold. -/
import Derived.Test.YtfljibjjpgdmhaaGreatDoorRowk
set_option linter.unusedVariables false
set_option linter.unusedSimpArgs false
set_option linter.unusedSectionVars false
namespace Go.Proofs.YtfljibjjpgdmhaaGreatDoor
open Go.RowKit Go.ChangeShapes Go.WideShapes

structure Hdr where
  name : ByteArray
  value : ByteArray
  secret : Bool
  deriving Inhabited
def Hdr.cells (h : Hdr) : List Value := [.string h.name, .string h.value, .bool h.secret]
/-- Its texts are no longer than a text may be. -/
def Hdr.fits (h : Hdr) : Prop := h.name.size ≤ maxLen ∧ h.value.size ≤ maxLen

set_option maxRecDepth 100000 in
theorem open_hdr {H : Type} {enc : TypeId × Value → H} {w : World} {fuel : Nat} {cs : List Value} {x : DataW H × List MemPlace}
    (h : DataW.trod enc Tryz.prog w 0 (fun _ => true) true fuel 35 cs = some x) : ∃ y : Hdr, cs = y.cells ∧ y.fits := by
  obtain ⟨xs, n, rfl, _, hl, hxl, hf⟩ := DataW.trod_struct Tryz.underlying35 h
  have e3 : Tryz.prog.cellsOf 35 = 3 := by kernel_rfl
  have e9 : Tryz.prog.cellsOf 9 = 1 := by kernel_rfl
  have e4 : Tryz.prog.cellsOf 4 = 1 := by kernel_rfl
  rw [e3] at hl
  match xs, hxl, cs, hl with
  | [y0, y1, y2], _, [c0, c1, c2], _ =>
    have g0 := hf 0 _ rfl
    have g1 := hf 1 _ rfl
    have g2 := hf 2 _ rfl
    simp [e9, e4] at g0 g1 g2
    obtain ⟨s0, h0, _, w0⟩ := DataW.trod_string Tryz.underlying9 g0
    obtain ⟨s1, h1, _, w1⟩ := DataW.trod_string Tryz.underlying9 g1
    obtain ⟨b, h2, _⟩ := DataW.trod_bool Tryz.underlying4 g2
    simp only [List.cons.injEq, and_true] at h0 h1 h2
    subst h0; subst h1; subst h2
    exact ⟨⟨s0, s1, b⟩, rfl, w0, w1⟩

/-- A list of headers at a slice. -/
def HdrsAt (w : World) (A : Option Addr) (l : List Hdr) : Prop := RowIs w A l.length 3 (l.map Hdr.cells)
theorem HdrsAt.below {w w' : World} {A : Option Addr} {l : List Hdr} (h : HdrsAt w A l) (hb : Below w.heap.size w w') : HdrsAt w' A l := RowIs.below h hb
theorem addr_add {ad : Addr} (i j : Nat) (hj : 0 < j) : (ad.add i).add j = ⟨(ad.add i).block, (ad.add i).off + j, none⟩ := by
  unfold Addr.add; by_cases h : i = 0 <;> simp [h, Nat.ne_of_gt hj]
/-- The cells of header i. -/
theorem HdrsAt.get {w : World} {A : Option Addr} {l : List Hdr} (h : HdrsAt w A l) (i : Nat) (hi : i < l.length) : ∃ ad, A = some ad ∧
    w.cell? (ad.add (i * 3)) = some (.string l[i].name) ∧ w.cell? ⟨(ad.add (i * 3)).block, (ad.add (i * 3)).off + 1, none⟩ = some (.string l[i].value) ∧
    w.cell? ⟨(ad.add (i * 3)).block, (ad.add (i * 3)).off + 2, none⟩ = some (.bool l[i].secret) ∧ ad.block < w.heap.size := by
  obtain ⟨ad, e, hlt, hc⟩ := h.2 (by omega)
  obtain ⟨_, hc⟩ := hc i l[i].cells (by simp [hi])
  refine ⟨ad, e, ?_, ?_, ?_, hlt⟩
  · exact hc 0 _ rfl
  · rw [← addr_add _ _ (by omega)]; exact hc 1 _ rfl
  · rw [← addr_add _ _ (by omega)]; exact hc 2 _ rfl

/-- The first value of a name. -/
def findH (name : ByteArray) : List Hdr → Option ByteArray
  | [] => none
  | h :: t => if (h.name.toList == name.toList) = true then some h.value else findH name t
def emptyB : ByteArray := ⟨#[]⟩
theorem find_hit {name : ByteArray} {l : List Hdr} {k : Nat} (h : findH name l = findH name (l.drop k)) (hk : k < l.length) (e : (l[k].name.toList == name.toList) = true) : findH name l = some l[k].value := by
  rw [h, List.drop_eq_getElem_cons hk, findH, if_pos e]
theorem find_next {name : ByteArray} {l : List Hdr} {k : Nat} (h : findH name l = findH name (l.drop k)) (hk : k < l.length) (e : (l[k].name.toList == name.toList) = false) : findH name l = findH name (l.drop (k + 1)) := by
  rw [h, List.drop_eq_getElem_cons hk, findH, if_neg (by rw [e]; simp)]
theorem find_end {name : ByteArray} {l : List Hdr} {k : Nat} (h : findH name l = findH name (l.drop k)) (hk : ¬ k < l.length) : findH name l = none := by
  rw [h, List.drop_eq_nil_of_le (by omega)]; rfl
end Go.Proofs.YtfljibjjpgdmhaaGreatDoor
