/- The program's streams and the reference's, both the law's own, apart from each other. -/
import Derived.Test.YtfhcafpocmapkaaRStrOwn
import Derived.Test.YtfhcafpocmapkaaStrDo
set_option linter.unusedVariables false
set_option linter.unusedSimpArgs false
set_option linter.unusedSectionVars false
namespace Go.Proofs.Ytfhcafpocmapkaa
open Go.RowKit
def pfoot (b m : Nat) (x : Nat) : Prop := x = b ∨ x = m
def STwo (w0 : World) (b m xb : Nat) (bx : List (Nat × List Value)) (s : PS) (r : RS) (w : World) : Prop :=
  ∃ lv gv, StrAt w b m s ∧ RAt w0.heap.size w xb lv gv r ∧ (∀ x, pfoot b m x → w0.heap.size ≤ x ∧ ¬ rsfoot xb lv gv x) ∧ (∀ x, rsfoot xb lv gv x → w0.heap.size ≤ x) ∧ Below w0.heap.size w0 w ∧ (∀ q ∈ bx, BlockIs w q.1 q.2 ∧ ¬ pfoot b m q.1 ∧ ¬ rsfoot xb lv gv q.1 ∧ w0.heap.size ≤ q.1)
section
variable {w0 w : World} {b m xb : Nat} {bx : List (Nat × List Value)} {s : PS} {r : RS}
theorem pfoot_lt (h : StrAt w b m s) {x : Nat} (hx : pfoot b m x) : x < w.heap.size := by
  rcases hx with rfl | rfl
  · exact h.1.lt
  · exact h.2.1.lt
theorem STwo.below0 (h : STwo w0 b m xb bx s r w) : Below w0.heap.size w0 w := by obtain ⟨_, _, _, _, _, _, h, _⟩ := h; exact h
theorem STwo.below {w' : World} (h : STwo w0 b m xb bx s r w) (k : Below w.heap.size w w') : STwo w0 b m xb bx s r w' := by
  obtain ⟨lv, gv, h1, h2, h3, h4, h5, h6⟩ := h
  exact ⟨lv, gv, h1.below k, h2.below k, h3, h4, below_then h5 k, fun q hq => ⟨(h6 q hq).1.keeps (Keeps.of_below (S := fun _ => False) k) (fun e => e), (h6 q hq).2⟩⟩
theorem STwo.box (h : STwo w0 b m xb bx s r w) (cs : List Value) (T : TypeId) : STwo w0 b m xb ((w.heap.size, cs) :: bx) s r (w.alloc (.cells cs.toArray T)) := by
  have h' := h.below (below_al (Below.refl _ _) (.cells cs.toArray T))
  obtain ⟨lv, gv, h1, h2, h3, h4, h5, h6⟩ := h'
  obtain ⟨lv', gv', g1, g2, g3, g4, g5, g6⟩ := h
  refine ⟨lv', gv', h1, g2.below (below_al (Below.refl _ _) _), g3, g4, h5, fun q hq => ?_⟩
  rcases List.mem_cons.1 hq with rfl | hq
  · exact ⟨BlockIs.new w cs T, fun hx => Nat.lt_irrefl _ (pfoot_lt g1 hx), fun hx => Nat.lt_irrefl _ (g2.foot_lt hx), g5.size⟩
  · exact ⟨(h6 q hq).1, (g6 q hq).2⟩
theorem STwo.unbox {q : Nat × List Value} (h : STwo w0 b m xb (q :: bx) s r w) : STwo w0 b m xb bx s r w := by
  obtain ⟨lv, gv, h1, h2, h3, h4, h5, h6⟩ := h
  exact ⟨lv, gv, h1, h2, h3, h4, h5, fun q hq => h6 q (List.mem_cons_of_mem _ hq)⟩
theorem STwo.isBox {q : Nat × List Value} (h : STwo w0 b m xb bx s r w) (hq : q ∈ bx) : BlockIs w q.1 q.2 := by
  obtain ⟨lv, gv, h1, h2, h3, h4, h5, h6⟩ := h
  exact (h6 q hq).1
theorem STwo.set {g : Nat} {cs : List Value} (h : STwo w0 b m xb ((g, cs) :: bx) s r w) (hd : ∀ q ∈ bx, q.1 ≠ g) (o : Nat) (v : Value) : STwo w0 b m xb ((g, cs.set o v) :: bx) s r (w.setCell ⟨g, o, none⟩ v) := by
  obtain ⟨lv, gv, h1, h2, h3, h4, h5, h6⟩ := h
  obtain ⟨q1, q2, q3, q4⟩ := h6 (g, cs) (List.mem_cons_self ..)
  have k : Keeps (fun x => x = g) w (w.setCell ⟨g, o, none⟩ v) := Keeps.set1 (S := fun x => x = g) (Keeps.refl (fun x => x = g) w) rfl o v
  refine ⟨lv, gv, h1.keeps k (fun e => q2 (.inl e.symm)) (fun e => q2 (.inr e.symm)), h2.keeps k (fun x hx e => q3 ((show x = g from e) ▸ hx)), h3, h4, h5.trans (below_setB (Below.refl _ _) q4 o v), fun q hq => ?_⟩
  rcases List.mem_cons.1 hq with rfl | hq
  · exact ⟨q1.set o v, q2, q3, q4⟩
  · exact ⟨(h6 q (List.mem_cons_of_mem _ hq)).1.keeps k (hd q hq), (h6 q (List.mem_cons_of_mem _ hq)).2⟩
theorem Keeps.belowN {n : Nat} {S : Nat → Prop} {w w' : World} (k : Keeps S w w') (hn : n ≤ w.heap.size) (hs : ∀ x, S x → n ≤ x) : Below n w w' :=
  ⟨k.os, k.tape, k.output, k.size, fun i hi => k.block i (Nat.lt_of_lt_of_le hi hn) (fun e => Nat.lt_irrefl _ (Nat.lt_of_lt_of_le hi (hs i e)))⟩
theorem STwo.prog {s' : PS} {w' : World} (h : STwo w0 b m xb bx s r w) (hs : StrAt w' b m s') (k : Keeps (fun x => x = b ∨ x = m) w w') : STwo w0 b m xb bx s' r w' := by
  obtain ⟨lv, gv, h1, h2, h3, h4, h5, h6⟩ := h
  exact ⟨lv, gv, hs, h2.keeps k (fun x hx e => (h3 x e).2 hx), h3, h4, h5.trans (k.belowN h5.size (fun x hx => (h3 x hx).1)), fun q hq => ⟨(h6 q hq).1.keeps k (h6 q hq).2.1, (h6 q hq).2⟩⟩
theorem STwo.refPost {lv gv v : Value} {r' : RS} {w' : World} {e : Ending} (h1 : StrAt w b m s) (h2 : RAt w0.heap.size w xb lv gv r) (h3 : ∀ x, pfoot b m x → w0.heap.size ≤ x ∧ ¬ rsfoot xb lv gv x) (h4 : ∀ x, rsfoot xb lv gv x → w0.heap.size ≤ x) (h5 : Below w0.heap.size w0 w)
    (h6 : ∀ q ∈ bx, BlockIs w q.1 q.2 ∧ ¬ pfoot b m q.1 ∧ ¬ rsfoot xb lv gv q.1 ∧ w0.heap.size ≤ q.1) (hp : RSPost w0.heap.size xb lv gv r' v w e w') : e = .returned v ∧ STwo w0 b m xb bx s r' w' := by
  obtain ⟨lv', gv', he, k1, k2, k3⟩ := hp
  refine ⟨he, lv', gv', h1.keeps k3 (h3 b (.inl rfl)).2 (h3 m (.inr rfl)).2, k1, fun x hx => ⟨(h3 x hx).1, fun hr => ?_⟩, fun x hx => ?_, h5.trans (k3.belowN h5.size h4), fun q hq => ⟨(h6 q hq).1.keeps k3 (h6 q hq).2.2.1, (h6 q hq).2.1, fun hx => ?_, (h6 q hq).2.2.2⟩⟩
  · rcases k2 x hr with h | h
    · exact (h3 x hx).2 h
    · have := pfoot_lt h1 hx; omega
  · rcases k2 x hx with h | h
    · exact h4 x h
    · exact Nat.le_trans h5.size h
  · rcases k2 q.1 hx with h | h
    · exact (h6 q hq).2.2.1 h
    · have := (h6 q hq).1.lt; omega
end
end Go.Proofs.Ytfhcafpocmapkaa
