/- A wheel that a law made itself: the calls on it, and what else they leave as it was; the law's awake. -/
import Derived.Test.YtilkfcpdeeaifaaWhlSet
set_option linter.unusedVariables false
set_option linter.unusedSimpArgs false
set_option linter.unusedSectionVars false
namespace Go.Proofs.Ytilkfcpdeeaifaa
open Go.RowKit Go.Sort
/-- The wheel at b, m is the law's own: all its blocks are new since w0. -/
def Own (w0 : World) (b m : Nat) (s : PW) (w : World) : Prop :=
  ∃ sv, WhlAt w0.heap.size w b m sv s ∧ (∀ x, foot b m sv x → w0.heap.size ≤ x) ∧ Below w0.heap.size w0 w
theorem Own.below0 {w0 w : World} {b m : Nat} {s : PW} (h : Own w0 b m s w) : Below w0.heap.size w0 w := by obtain ⟨_, _, _, h⟩ := h; exact h
theorem Own.step {w0 w w' : World} {b m : Nat} {s s' : PW} {sv : Nat → Value} {v : Value} {e : Ending} (hf : ∀ x, foot b m sv x → w0.heap.size ≤ x) (hb : Below w0.heap.size w0 w) (h : WPost w0.heap.size b m sv s' v w e w') : e = .returned v ∧ Own w0 b m s' w' := by
  obtain ⟨sv', he, h1, h2, h3⟩ := h
  refine ⟨he, sv', h1, fun x hx => ?_, hb.trans (h3.below hb.size hf)⟩
  rcases h2 x hx with h4 | h4
  · exact hf x h4
  · exact Nat.le_trans hb.size h4
theorem Own.below {w0 w w' : World} {b m : Nat} {s : PW} (h : Own w0 b m s w) (k : Below w.heap.size w w') : Own w0 b m s w' := by
  obtain ⟨sv, h1, h2, h3⟩ := h
  exact ⟨sv, h1.below k, h2, below_then h3 k⟩
theorem own_new {w0 w : World} (hb : Below w0.heap.size w0 w) : Calls Try.prog 25 #[] w fun e w' => ∃ b m, e = .returned (.pointer (some ⟨b, 0, none⟩)) ∧ Own w0 b m PW.new w' := by
  refine (wnew_any w).mono ?_
  rintro e w' ⟨b, m, rfl, h1, h2, h3, h4⟩
  refine ⟨b, m, rfl, fun _ => .slice none 0 0, ⟨h1.blk, h1.map, fun k hk => ?_, h1.sep, h1.nb⟩, ?_, below_then hb h4⟩
  · have := h1.row k hk
    refine ⟨this.1, ?_⟩
    rcases this.2 with hn | ⟨g, cap, cur, e, _⟩
    · exact .inl hn
    · cases e
  · rintro x (rfl | rfl | ⟨i, _, hg⟩)
    · exact Nat.le_trans hb.size h2
    · exact Nat.le_trans hb.size h3
    · cases hg
theorem own_set {w0 w : World} {b m : Nat} {s : PW} (h : Own w0 b m s w) (hs : s.Good) (hb : s.now ≤ 4611686018427387904) (hb2 : s.set ≤ 4611686018427387904) (i a : Int) :
    Calls Try.prog 26 #[.pointer (some ⟨b, 0, none⟩), .int .i64 i, .int .i64 a] w fun e w' => e = .returned (.int .i64 (s.setF i a).2) ∧ Own w0 b m (s.setF i a).1 w' := by
  obtain ⟨sv, h1, h2, h3⟩ := h
  exact (wset_any h1 hs hb hb2 h3.size i a).mono fun e w' hp => Own.step (s := s) h2 h3 hp
theorem own_cancel {w0 w : World} {b m : Nat} {s : PW} (h : Own w0 b m s w) (hs : s.Good) (hb : s.now ≤ 4611686018427387904) (i : Int) :
    Calls Try.prog 51 #[.pointer (some ⟨b, 0, none⟩), .int .i64 i] w fun e w' => e = .returned (.int .i64 (s.cancelF i).2) ∧ Own w0 b m (s.cancelF i).1 w' := by
  obtain ⟨sv, h1, h2, h3⟩ := h
  exact (wcancel_any h1 hs hb i).mono fun e w' hp => Own.step (s := s) h2 h3 hp
end Go.Proofs.Ytilkfcpdeeaifaa
