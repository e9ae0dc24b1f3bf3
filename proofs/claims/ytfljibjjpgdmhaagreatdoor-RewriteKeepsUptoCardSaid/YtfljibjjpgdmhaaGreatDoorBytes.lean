/- Lists of bytes that came in. -/
import Derived.Test.YtfljibjjpgdmhaaGreatDoorInts
set_option linter.unusedVariables false
set_option linter.unusedSimpArgs false
set_option linter.unusedSectionVars false
namespace Go.Proofs.YtfljibjjpgdmhaaGreatDoor
open Go.RowKit Go.ChangeShapes Go.WideShapes
def u8Cells (x : Int) : List Value := [.int .u8 x]
theorem open_u8 {H : Type} {enc : TypeId × Value → H} {w : World} {fuel : Nat} {cs : List Value} {x : DataW H × List MemPlace}
    (h : DataW.trod enc Tryz.prog w 0 (fun _ => true) true fuel 5 cs = some x) : ∃ y : Int, cs = u8Cells y ∧ (Lit.int .u8 y).wf = true := by
  obtain ⟨n, h1, _, h3⟩ := DataW.trod_int Tryz.underlying5 h
  exact ⟨n, h1, h3⟩
def BytesAt (w : World) (A : Option Addr) (l : List Int) : Prop := RowIs w A l.length 1 (l.map u8Cells)
theorem BytesAt.below {w w' : World} {A : Option Addr} {l : List Int} (h : BytesAt w A l) (hb : Below w.heap.size w w') : BytesAt w' A l := RowIs.below h hb
theorem BytesAt.get {w : World} {A : Option Addr} {l : List Int} (h : BytesAt w A l) (i : Nat) (hi : i < l.length) : ∃ g o, A = some ⟨g, o, none⟩ ∧ w.cell? ⟨g, o + i, none⟩ = some (.int .u8 l[i]) ∧ g < w.heap.size := by
  obtain ⟨⟨g, o, sp⟩, e, hlt, hc⟩ := h.2 (by omega)
  have h0 := (hc 0 (u8Cells l[0]) (by simp [Nat.lt_of_le_of_lt (Nat.zero_le i) hi])).2 0 _ rfl
  have hsp : sp = none := by
    have := World.cell?_spot h0
    simpa [Addr.add] using this
  subst hsp
  obtain ⟨_, hc⟩ := hc i (u8Cells l[i]) (by simp [hi])
  refine ⟨g, o, e, ?_, hlt⟩
  have := hc 0 _ rfl
  rw [add_none, add_none] at this
  simpa using this
end Go.Proofs.YtfljibjjpgdmhaaGreatDoor
