/- A slice that came in, opened at every index, whatever its elements' type: the cells of element i, and that they read as that type. -/
import Derived.Test.YtbekmflfmmcffaaGreatKit
import Derived.ProofKit
import Derived.Deep.Slices
import Derived.SizedLaws
set_option linter.unusedVariables false
set_option linter.unusedSimpArgs false
set_option linter.unusedSectionVars false
namespace Go.Proofs.YtbekmflfmmcffaaGreat
open Go.RowKit Go.ChangeShapes Go.WideShapes

/-- The cells from an address on hold these values. -/
def CellsAt (w : World) (a : Addr) (cs : List Value) : Prop := ∀ j u, cs[j]? = some u → w.cell? (a.add j) = some u
/-- A slice that came in: empty, or at 'a' its elements' cells, 'size' each. -/
def RowIs (w : World) (A : Option Addr) (len size : Nat) (xs : List (List Value)) : Prop :=
  xs.length = len ∧ (0 < len → ∃ a, A = some a ∧ a.block < w.heap.size ∧ ∀ i cs, xs[i]? = some cs → cs.length = size ∧ CellsAt w (a.add (i * size)) cs)

theorem CellsAt.below {w w' : World} {a : Addr} {cs : List Value} (h : CellsAt w a cs) (hb : Below w.heap.size w w') : CellsAt w' a cs := fun j u hj => by
  have h1 := h j u hj
  rw [hb.cell (World.block_lt_of_cell? w _ h1)]; exact h1
theorem RowIs.below {w w' : World} {A : Option Addr} {len size : Nat} {xs : List (List Value)} (h : RowIs w A len size xs) (hb : Below w.heap.size w w') : RowIs w' A len size xs := by
  refine ⟨h.1, fun h0 => ?_⟩
  obtain ⟨a, e, hlt, hc⟩ := h.2 h0
  exact ⟨a, e, Nat.lt_of_lt_of_le hlt hb.size, fun i cs hi => ⟨(hc i cs hi).1, (hc i cs hi).2.below hb⟩⟩

section
variable {H : Type} {enc : TypeId × Value → H} {P : Program} {w : World}
theorem open_row {t e : TypeId} {A : Option Addr} {len cap : Nat} {d : DataW H} {ps : List MemPlace} (ht : P.underlying t = some (.slice e)) {size : Nat} (hs : P.cellsOf e = size) (hsz : 0 < size)
    (h : DataW.Trod enc P w 0 (fun _ => true) true t (.slice A len cap) d ps) :
    ∃ xs : List (List Value), RowIs w A len size xs ∧ len ≤ cap ∧ cap ≤ maxLen ∧ (A = none → cap = 0) ∧ (d = .nil ∧ cap = 0 ∨ ∃ es sp, d = .slice es sp ∧ es.length + sp.length = cap) ∧ ∀ cs ∈ xs, ∃ n x, DataW.trod enc P w 0 (fun _ => true) true n e cs = some x := by
  obtain ⟨fuel, hf⟩ := h
  rcases Deep.open_slice ht hf with ⟨hcs, hx⟩ | ⟨a, l, c, m, n, D, Pl, hcs, _, hl, hm, hmm, hx, hel⟩
  · simp [Value.cells] at hcs
    obtain ⟨rfl, rfl, rfl⟩ := hcs
    exact ⟨[], ⟨rfl, fun h0 => absurd h0 (Nat.lt_irrefl _)⟩, Nat.le_refl _, Nat.zero_le _, fun _ => rfl, .inl ⟨(Prod.mk.inj hx).1, rfl⟩, by simp⟩
  · simp [Value.cells] at hcs
    obtain ⟨rfl, rfl, rfl⟩ := hcs
    simp only [if_true] at hmm
    subst hmm
    obtain ⟨F, hF⟩ := Deep.choose_lt hel
    rw [hs] at hF
    have hi0 : ∀ i cs, ((List.range len).map F)[i]? = some cs → i < len ∧ cs = F i := by
      intro i cs hi
      have hil : i < ((List.range len).map F).length := by
        rcases Nat.lt_or_ge i ((List.range len).map F).length with h | h
        · exact h
        · rw [List.getElem?_eq_none h] at hi; cases hi
      rw [List.getElem?_eq_getElem hil] at hi
      simp at hi hil
      exact ⟨hil, hi.symm⟩
    refine ⟨(List.range len).map F, ⟨by simp, fun h0 => ⟨a, rfl, ?_, ?_⟩⟩, hl, hm, fun e => (by cases e), .inr ⟨_, _, (Prod.mk.inj hx).1, by simp; omega⟩, ?_⟩
    · have h1 := (World.cells?_some (hF 0 (by omega)).1).2
      have h2 := h1.2 0 hsz
      obtain ⟨v, hv⟩ : ∃ v, (F 0)[0]? = some v := by
        rw [List.getElem?_eq_getElem (by omega)]; exact ⟨_, rfl⟩
      rw [hv] at h2
      have h3 := World.block_lt_of_cell? w _ h2
      simpa [Addr.add] using h3
    · intro i cs hi
      obtain ⟨hil, rfl⟩ := hi0 i cs hi
      have h1 := (World.cells?_some (hF i (by omega)).1).2
      refine ⟨h1.1, fun j u hj => ?_⟩
      have hjs : j < size := by
        rcases Nat.lt_or_ge j (F i).length with h | h
        · omega
        · rw [List.getElem?_eq_none h] at hj; cases hj
      rw [h1.2 j hjs]; exact hj
    · intro cs hcs
      rw [List.mem_map] at hcs
      obtain ⟨i, hi, rfl⟩ := hcs
      exact ⟨n, _, (hF i (by have := List.mem_range.1 hi; omega)).2⟩

/-- How long a slice that came in may be: its bytes lie within the reach. -/
theorem sized_row {ts : List TypeId} {ds : List (DataW H)} {j : Nat} {t e : TypeId} {d : DataW H} {cap B : Nat}
    (hsz : (DataW.weightsEach P ts ds).all (· ≤ reachBytes) = true) (ht : ts[j]? = some t) (hd : ds[j]? = some d) (hu : P.underlying t = some (.slice e)) (hB : P.bytesOf e = B)
    (h : d = .nil ∧ cap = 0 ∨ ∃ es sp, d = .slice es sp ∧ es.length + sp.length = cap) : cap * B ≤ 140737488351232 := by
  rcases h with ⟨_, rfl⟩ | ⟨es, sp, rfl, rfl⟩
  · simp
  · have := sized_slice hsz ht hd hu
    rw [hB] at this; exact this
/-- One list of typed elements out of the cells' lists. -/
theorem typed_row {α : Type} {xs : List (List Value)} {f : α → List Value} {Q : α → Prop} (h : ∀ cs ∈ xs, ∃ y, cs = f y ∧ Q y) : ∃ ys : List α, xs = ys.map f ∧ ∀ y ∈ ys, Q y := by
  induction xs with
  | nil => exact ⟨[], rfl, by simp⟩
  | cons c cs ih =>
    obtain ⟨y, rfl, hq⟩ := h c (by simp)
    obtain ⟨ys, rfl, hqs⟩ := ih (fun c hc => h c (by simp [hc]))
    exact ⟨y :: ys, rfl, by simp; exact ⟨hq, hqs⟩⟩
end
end Go.Proofs.YtbekmflfmmcffaaGreat
