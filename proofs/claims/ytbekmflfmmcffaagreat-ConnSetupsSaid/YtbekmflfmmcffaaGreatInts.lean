/- Lists of ints that came in. -/
import Derived.Test.YtbekmflfmmcffaaGreatRowk
set_option linter.unusedVariables false
set_option linter.unusedSimpArgs false
set_option linter.unusedSectionVars false
namespace Go.Proofs.YtbekmflfmmcffaaGreat
open Go.RowKit Go.ChangeShapes Go.WideShapes

def intCells (x : Int) : List Value := [.int .i64 x]
theorem open_i64 {H : Type} {enc : TypeId × Value → H} {w : World} {fuel : Nat} {cs : List Value} {x : DataW H × List MemPlace}
    (h : DataW.trod enc Tryz.prog w 0 (fun _ => true) true fuel 3 cs = some x) : ∃ y : Int, cs = intCells y ∧ (Lit.int .i64 y).wf = true := by
  obtain ⟨n, h1, _, h3⟩ := DataW.trod_int Tryz.underlying3 h
  exact ⟨n, h1, h3⟩
def IntsAt (w : World) (A : Option Addr) (l : List Int) : Prop := RowIs w A l.length 1 (l.map intCells)
theorem IntsAt.below {w w' : World} {A : Option Addr} {l : List Int} (h : IntsAt w A l) (hb : Below w.heap.size w w') : IntsAt w' A l := RowIs.below h hb
theorem add_none (g o j : Nat) : (⟨g, o, none⟩ : Addr).add j = ⟨g, o + j, none⟩ := by unfold Addr.add; split <;> simp_all
theorem IntsAt.get {w : World} {A : Option Addr} {l : List Int} (h : IntsAt w A l) (i : Nat) (hi : i < l.length) : ∃ g o, A = some ⟨g, o, none⟩ ∧ w.cell? ⟨g, o + i, none⟩ = some (.int .i64 l[i]) ∧ g < w.heap.size := by
  obtain ⟨⟨g, o, sp⟩, e, hlt, hc⟩ := h.2 (by omega)
  have h0 := (hc 0 (intCells l[0]) (by simp [Nat.lt_of_le_of_lt (Nat.zero_le i) hi])).2 0 _ rfl
  have hsp : sp = none := by
    have := World.cell?_spot h0
    simpa [Addr.add] using this
  subst hsp
  obtain ⟨_, hc⟩ := hc i (intCells l[i]) (by simp [hi])
  refine ⟨g, o, e, ?_, hlt⟩
  have := hc 0 _ rfl
  rw [add_none, add_none] at this
  simpa using this
theorem bounds_i64 {y : Int} (h : (Lit.int .i64 y).wf = true) : -9223372036854775808 ≤ y ∧ y ≤ 9223372036854775807 := by
  simp [Lit.wf, IntKind.min, IntKind.max, IntKind.signed, IntKind.bits] at h
  omega
theorem bounds_u8 {y : Int} (h : (Lit.int .u8 y).wf = true) : 0 ≤ y ∧ y ≤ 255 := by
  simp [Lit.wf, IntKind.min, IntKind.max, IntKind.signed, IntKind.bits] at h
  omega
end Go.Proofs.YtbekmflfmmcffaaGreat
