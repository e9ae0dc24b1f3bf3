/- The walk of the law StreamEnds. -/
import Derived.Test.YtfhcafpocmapkaaStrEndsPure3
import Derived.Test.YtfhcafpocmapkaaOps10
import Derived.Test.YtfhcafpocmapkaaStrNew
set_option linter.unusedVariables false
set_option linter.unusedSimpArgs false
set_option linter.unusedSectionVars false
namespace Go.Proofs.Ytfhcafpocmapkaa
open Go.RowKit
theorem st_new {w0 w1 w2 : World} {b m xb : Nat} {s : PS} {r : RS} (h1 : StrAt w1 b m s) (hb : w0.heap.size ≤ b) (hm : w0.heap.size ≤ m) (k1 : Below w0.heap.size w0 w1) (hr : RAt w1.heap.size w2 xb (.slice none 0 0) (.slice none 0 0) r) (hx : w1.heap.size ≤ xb) (he : r.es = []) (hg : r.gone = []) (k2 : Below w1.heap.size w1 w2) : STwo w0 b m xb [] s r w2 := by
  have hf : ∀ x, rsfoot xb (.slice none 0 0) (.slice none 0 0) x → x = xb := by
    rintro x (rfl | hx | hx)
    · rfl
    · simp [Value.ownBlock] at hx
    · simp [Value.ownBlock] at hx
  refine ⟨.slice none 0 0, .slice none 0 0, h1.below k2, ⟨hr.blk, by rw [he]; exact World.ownsRow_nil _ _ _ _, by rw [hg]; exact OwnsO.nil _ _, hr.nl, hr.ng, hr.nlg, hr.glen⟩, ?_, ?_, below_then k1 k2, fun q hq => by cases hq⟩
  · intro x hx2
    refine ⟨by rcases hx2 with rfl | rfl <;> assumption, fun e => ?_⟩
    have := hf x e
    have := pfoot_lt h1 hx2
    omega
  · intro x e
    have := hf x e
    have := k1.size
    omega
theorem pi_new (server : Bool) (most : Nat) : PI server most 0 (PS.new server most) := ⟨rfl, rfl, (by decide : (1024 : Int) ≤ 1024), Nat.zero_le _, Nat.zero_le _, Int.le_refl 0, ⟨Int.le_refl 0, (by decide : (0 : Int) ≤ 2147483647), .inl rfl⟩, Nat.le_refl 0⟩
theorem ri_new (server : Bool) (most : Nat) : RI most (RS.new server most) := ⟨rfl, (by decide : (1024 : Int) ≤ 1024), Nat.zero_le _, Nat.zero_le _, ⟨Int.le_refl 0, (by decide : (0 : Int) ≤ 2147483647), .inl rfl⟩, fun p hp => by cases hp⟩
theorem nofour_new (server : Bool) (most : Int) : NoFour (PS.new server most) := fun p hp => by cases hp
end Go.Proofs.Ytfhcafpocmapkaa
