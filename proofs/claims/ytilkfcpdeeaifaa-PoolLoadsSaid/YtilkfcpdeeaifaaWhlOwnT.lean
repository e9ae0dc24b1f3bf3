/- A tick of a wheel that a law made itself; the laws' ints and has. -/
import Derived.Test.YtilkfcpdeeaifaaWhlOwn
import Derived.Test.YtilkfcpdeeaifaaWhlTick
set_option linter.unusedVariables false
set_option linter.unusedSimpArgs false
set_option linter.unusedSectionVars false
namespace Go.Proofs.Ytilkfcpdeeaifaa
open Go.RowKit Go.Sort
/-- The law's own wheel, all of whose blocks lie below B. -/
def OwnC (w0 : World) (B b m : Nat) (s : PW) (w : World) : Prop :=
  ∃ sv, WhlAt w0.heap.size w b m sv s ∧ (∀ x, foot b m sv x → w0.heap.size ≤ x ∧ x < B) ∧ Below w0.heap.size w0 w
theorem Own.clear {w0 w : World} {b m : Nat} {s : PW} (h : Own w0 b m s w) : OwnC w0 w.heap.size b m s w := by
  obtain ⟨sv, h1, h2, h3⟩ := h
  exact ⟨sv, h1, fun x hx => ⟨h2 x hx, h1.foot_lt hx⟩, h3⟩
theorem OwnC.below {w0 w w' : World} {B b m : Nat} {s : PW} (h : OwnC w0 B b m s w) (k : Below w.heap.size w w') : OwnC w0 B b m s w' := by
  obtain ⟨sv, h1, h2, h3⟩ := h
  exact ⟨sv, h1.below k, h2, below_then h3 k⟩
theorem OwnC.keeps {w0 w w' : World} {B b m : Nat} {s : PW} (h : OwnC w0 B b m s w) (hB : w0.heap.size ≤ B) (k : Keeps (fun x => B ≤ x) w w') : OwnC w0 B b m s w' := by
  obtain ⟨sv, h1, h2, h3⟩ := h
  exact ⟨sv, h1.keeps k (fun x hx e => by have := (h2 x hx).2; omega), h2, h3.trans (k.below h3.size (fun x hx => Nat.le_trans hB hx))⟩
theorem OwnC.own {w0 w : World} {B b m : Nat} {s : PW} (h : OwnC w0 B b m s w) : Own w0 b m s w := by
  obtain ⟨sv, h1, h2, h3⟩ := h
  exact ⟨sv, h1, fun x hx => (h2 x hx).1, h3⟩
/-- A tick: the wheel, the row of numbers, and all from B on as it was. -/
def OwnTick (w0 : World) (B b m : Nat) (s : PW) (w : World) (e : Ending) (w' : World) : Prop :=
  ∃ v, e = .returned v ∧ Own w0 b m s.tickF.1 w' ∧ Owns w.heap.size w' v s.tickF.2 ∧ w.heap.size ≤ w'.heap.size ∧ ∀ x, B ≤ x → x < w.heap.size → w'.heap[x]? = w.heap[x]?
theorem own_tick {w0 w : World} {B b m : Nat} {s : PW} (h : OwnC w0 B b m s w) (hs : s.Good) (hb : s.now ≤ 4611686018427387904) (hb2 : s.set ≤ 4611686018427387904) :
    Calls Try.prog 29 #[.pointer (some ⟨b, 0, none⟩)] w (OwnTick w0 B b m s w) := by
  obtain ⟨sv, h1, h2, h3⟩ := h
  refine (wtick_any h1 hs hb hb2 h3.size).mono ?_
  rintro e w' ⟨sv', v, rfl, k1, k2, k3, k4, k5⟩
  refine ⟨v, rfl, ⟨sv', k1, fun x hx => ?_, h3.trans (k3.below h3.size (fun x hx => (h2 x hx).1))⟩, k4, k3.size, fun x hB hx => k3.block x hx (fun e => by have := (h2 x e).2; omega)⟩
  rcases k2 x hx with h4 | h4
  · exact (h2 x h4).1
  · exact Nat.le_trans h3.size h4
/-- The numbers of a row that is owned. -/
theorem Owns.nums {base : Nat} {w : World} {v : Value} {xs : List Int} (h : Owns base w v xs) : ∃ p cap, v = .slice p xs.length cap ∧ ∀ j (hj : j < xs.length), ∃ g, p = some ⟨g, 0, none⟩ ∧ w.cell? ⟨g, j, none⟩ = some (.int .i64 xs[j]) := by
  rcases h.form with ⟨hv, hx⟩ | ⟨g, cap, hv, _⟩
  · subst hx
    exact ⟨none, 0, hv, fun j hj => absurd hj (Nat.not_lt_zero _)⟩
  · subst hv
    refine ⟨_, cap, rfl, fun j hj => ⟨g, rfl, ?_⟩⟩
    have := h.cell j hj
    rw [Nat.zero_add] at this
    rw [this]; simp [hj]
end Go.Proofs.Ytilkfcpdeeaifaa
