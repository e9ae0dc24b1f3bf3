/- What a call may have written: nothing but the blocks of a footprint, and new blocks; the cells of a block of which all is known. -/
import Derived.Test.YtbekmflfmmcffaaGreatRowk
import Derived.Test.YtbekmflfmmcffaaGreatMaps
set_option linter.unusedVariables false
set_option linter.unusedSimpArgs false
set_option linter.unusedSectionVars false
namespace Go.Proofs.YtbekmflfmmcffaaGreat
open Go.RowKit

/-- w' is w but for the blocks of S, and new ones. -/
structure Keeps (S : Nat → Prop) (w w' : World) : Prop where
  os : w'.os = w.os
  tape : w'.tape = w.tape
  output : w'.output = w.output
  size : w.heap.size ≤ w'.heap.size
  block : ∀ k, k < w.heap.size → ¬ S k → w'.heap[k]? = w.heap[k]?
theorem Keeps.refl (S : Nat → Prop) (w : World) : Keeps S w w := ⟨rfl, rfl, rfl, Nat.le_refl _, fun _ _ _ => rfl⟩
theorem Keeps.trans {S : Nat → Prop} {a b c : World} (h : Keeps S a b) (k : Keeps S b c) : Keeps S a c :=
  ⟨k.os.trans h.os, k.tape.trans h.tape, k.output.trans h.output, Nat.le_trans h.size k.size, fun i hi hs => (k.block i (Nat.lt_of_lt_of_le hi h.size) hs).trans (h.block i hi hs)⟩
theorem not_of {S S' : Nat → Prop} {n i : Nat} (hs : ∀ k, S' k → S k ∨ n ≤ k) (hi : i < n) (hn : ¬ S i) : ¬ S' i := fun e => (hs i e).elim hn (fun h => absurd hi (Nat.not_lt.2 h))
theorem ne_of {S : Nat → Prop} {n i k : Nat} (hs : S i ∨ n ≤ i) (hk : k < n) (hn : ¬ S k) : i ≠ k := fun e => by subst e; exact hs.elim hn (fun h => absurd hk (Nat.not_lt.2 h))
theorem Keeps.mono {S S' : Nat → Prop} {w w' : World} (h : Keeps S w w') (hs : ∀ k, S k → S' k ∨ w.heap.size ≤ k) : Keeps S' w w' :=
  ⟨h.os, h.tape, h.output, h.size, fun k hk hn => h.block k hk (not_of hs hk hn)⟩
/-- A second step whose footprint may also hold what is new since the first one began. -/
theorem Keeps.then {S S' : Nat → Prop} {a b c : World} (h : Keeps S a b) (k : Keeps S' b c) (hs : ∀ k, S' k → S k ∨ a.heap.size ≤ k) : Keeps S a c :=
  ⟨k.os.trans h.os, k.tape.trans h.tape, k.output.trans h.output, Nat.le_trans h.size k.size, fun i hi hn => (k.block i (Nat.lt_of_lt_of_le hi h.size) (not_of hs hi hn)).trans (h.block i hi hn)⟩
theorem Keeps.of_below {S : Nat → Prop} {w w' : World} (h : Below w.heap.size w w') : Keeps S w w' := ⟨h.os, h.tape, h.output, h.size, fun k hk _ => h.block k hk⟩
theorem Keeps.below {S : Nat → Prop} {w0 w w' : World} (h : Keeps S w w') (hb : w0.heap.size ≤ w.heap.size) (hs : ∀ k, S k → w0.heap.size ≤ k) : Below w0.heap.size w w' :=
  ⟨h.os, h.tape, h.output, h.size, fun k hk => h.block k (by omega) (fun e => by have := hs k e; omega)⟩
theorem Keeps.alloc {S : Nat → Prop} {a w : World} (h : Keeps S a w) (o : Obj) : Keeps S a (w.alloc o) := h.trans (Keeps.of_below (below_al (Below.refl _ _) o))
theorem Keeps.drew {S : Nat → Prop} {a w : World} (h : Keeps S a w) : Keeps S a w.drew := ⟨h.os, h.tape, h.output, h.size, h.block⟩
theorem Keeps.setCell {S : Nat → Prop} {a w : World} (h : Keeps S a w) {p : Addr} (hp : S p.block ∨ a.heap.size ≤ p.block) (u : Value) : Keeps S a (w.setCell p u) :=
  ⟨h.os, h.tape, h.output, by simpa [World.setCell] using h.size, fun k hk hn => (Below.heap_setCell _ _ _ _ (ne_of hp hk hn).symm).trans (h.block k hk hn)⟩
theorem Keeps.set1 {b : Nat} {S : Nat → Prop} {a w : World} (h : Keeps S a w) (hb : S b) (o : Nat) (u : Value) : Keeps S a (w.setCell ⟨b, o, none⟩ u) := h.setCell (.inl hb) u
theorem heap_putB (w : World) (m : Nat) (o : Obj) (k : Nat) (h : m ≠ k) : (putB w m o).heap[k]? = w.heap[k]? := by
  show (w.heap.setIfInBounds m o)[k]? = _
  rw [Array.getElem?_setIfInBounds, if_neg h]
theorem size_putB (w : World) (m : Nat) (o : Obj) : (putB w m o).heap.size = w.heap.size := by
  show (w.heap.setIfInBounds m o).size = _
  simp
theorem Keeps.putB {S : Nat → Prop} {a w : World} (h : Keeps S a w) {m : Nat} (hp : S m ∨ a.heap.size ≤ m) (o : Obj) : Keeps S a (putB w m o) :=
  ⟨h.os, h.tape, h.output, by rw [size_putB]; exact h.size, fun k hk hn => (heap_putB _ _ _ _ (ne_of hp hk hn)).trans (h.block k hk hn)⟩
theorem Keeps.grown {S : Nat → Prop} {a w w' : World} {row : Option Nat} (h : Keeps S a w) (hg : w.grownBy w' row) (hr : ∀ k, row = some k → S k ∨ a.heap.size ≤ k) : Keeps S a w' :=
  ⟨hg.os.trans h.os, hg.tape.trans h.tape, hg.output.trans h.output, Nat.le_trans h.size hg.size, fun k hk hn =>
    (hg.block k (Nat.lt_of_lt_of_le hk h.size) (fun e => ne_of (hr k e.symm) hk hn rfl)).trans (h.block k hk hn)⟩
theorem Keeps.cell {S : Nat → Prop} {w w' : World} (h : Keeps S w w') {p : Addr} (hp : p.block < w.heap.size) (hn : ¬ S p.block) : w'.cell? p = w.cell? p := World.cell?_of_block (h.block p.block hp hn)
theorem Keeps.frozen {S : Nat → Prop} {w w' : World} (h : Keeps S w w') {p : Addr} (hp : p.block < w.heap.size) (hn : ¬ S p.block) : w'.frozen? p = w.frozen? p := World.frozen?_of_block (h.block p.block hp hn)

/-- Block b is a row of cells that holds just these values; nothing of it is frozen. -/
def BlockIs (w : World) (b : Nat) (cs : List Value) : Prop := ∃ T, w.heap[b]? = some (.cells cs.toArray T (0, 0))
theorem BlockIs.lt {w : World} {b : Nat} {cs : List Value} (h : BlockIs w b cs) : b < w.heap.size := by
  obtain ⟨T, h⟩ := h
  exact (Array.getElem?_eq_some_iff.1 h).1
theorem BlockIs.cell {w : World} {b : Nat} {cs : List Value} (h : BlockIs w b cs) (o : Nat) : w.cell? ⟨b, o, none⟩ = cs[o]? := by
  obtain ⟨T, h⟩ := h
  simp [World.cell?, h]
theorem BlockIs.free {w : World} {b : Nat} {cs : List Value} (h : BlockIs w b cs) (o : Nat) : w.frozen? ⟨b, o, none⟩ = false := by
  obtain ⟨T, h⟩ := h
  simp [World.frozen?, h]
theorem BlockIs.of_same {w w' : World} {b : Nat} {cs : List Value} (h : BlockIs w b cs) (e : w'.heap[b]? = w.heap[b]?) : BlockIs w' b cs := by
  obtain ⟨T, h⟩ := h
  exact ⟨T, e.trans h⟩
theorem BlockIs.keeps {S : Nat → Prop} {w w' : World} {b : Nat} {cs : List Value} (h : BlockIs w b cs) (k : Keeps S w w') (hn : ¬ S b) : BlockIs w' b cs := h.of_same (k.block b h.lt hn)
theorem BlockIs.alloc {w : World} {b : Nat} {cs : List Value} (h : BlockIs w b cs) (o : Obj) : BlockIs (w.alloc o) b cs := h.of_same (Below.heap_alloc _ _ _ h.lt)
theorem BlockIs.drew {w : World} {b : Nat} {cs : List Value} (h : BlockIs w b cs) : BlockIs w.drew b cs := h.of_same rfl
theorem BlockIs.set {w : World} {b : Nat} {cs : List Value} (h : BlockIs w b cs) (o : Nat) (v : Value) : BlockIs (w.setCell ⟨b, o, none⟩ v) b (cs.set o v) := by
  obtain ⟨T, h⟩ := h
  refine ⟨T, ?_⟩
  simp only [World.setCell, Array.getElem?_modify, if_true, h, Option.map_some]
  simp
theorem BlockIs.far {w : World} {b : Nat} {cs : List Value} (h : BlockIs w b cs) {p : Addr} (hp : b ≠ p.block) (v : Value) : BlockIs (w.setCell p v) b cs := h.of_same (Below.heap_setCell _ _ _ _ hp)
theorem BlockIs.putB {w : World} {b m : Nat} {cs : List Value} (h : BlockIs w b cs) (hm : m ≠ b) (o : Obj) : BlockIs (putB w m o) b cs :=
  h.of_same (heap_putB _ _ _ _ hm)
theorem BlockIs.new (w : World) (cs : List Value) (T : TypeId) : BlockIs (w.alloc (.cells cs.toArray T)) w.heap.size cs := ⟨T, heap_alloc_new w _⟩

theorem BlockIs.new' {w : World} {n : Nat} (cs : List Value) (T : TypeId) (h : n = w.heap.size) : BlockIs (w.alloc (.cells cs.toArray T)) n cs := by subst h; exact BlockIs.new w cs T
theorem size_setCell (w : World) (a : Addr) (v : Value) : (w.setCell a v).heap.size = w.heap.size := by simp [World.setCell]
theorem MapIs.lt {w : World} {m : Nat} {es : List (Int × Value)} (h : MapIs w m es) : m < w.heap.size := by
  obtain ⟨E, clock, h, _⟩ := h
  exact (Array.getElem?_eq_some_iff.1 h).1
theorem MapIs.of_same {w w' : World} {m : Nat} {es : List (Int × Value)} (h : MapIs w m es) (e : w'.heap[m]? = w.heap[m]?) : MapIs w' m es := by
  obtain ⟨E, clock, h, r⟩ := h
  exact ⟨E, clock, e.trans h, r⟩
theorem MapIs.keeps {S : Nat → Prop} {w w' : World} {m : Nat} {es : List (Int × Value)} (h : MapIs w m es) (k : Keeps S w w') (hn : ¬ S m) : MapIs w' m es := h.of_same (k.block m h.lt hn)
theorem MapIs.alloc {w : World} {m : Nat} {es : List (Int × Value)} (h : MapIs w m es) (o : Obj) : MapIs (w.alloc o) m es := h.of_same (Below.heap_alloc _ _ _ h.lt)
theorem MapIs.drew {w : World} {m : Nat} {es : List (Int × Value)} (h : MapIs w m es) : MapIs w.drew m es := h.of_same rfl
theorem MapIs.far {w : World} {m : Nat} {es : List (Int × Value)} (h : MapIs w m es) {p : Addr} (hp : m ≠ p.block) (v : Value) : MapIs (w.setCell p v) m es := h.of_same (Below.heap_setCell _ _ _ _ hp)
theorem MapIs.new (w : World) : MapIs (w.alloc (.map #[] 0)) w.heap.size [] := ⟨#[], 0, heap_alloc_new w _, rfl, by simp, by simp⟩
theorem wpList_mapStore {P : Program} {ops : Array Oper} {Q : Exit → Act → World → Prop} {rest : List Oper} {o : Oper} {a : Act} {w : World} (hg : o.guard = none) (m x v : Operand) (t : TypeId) (hop : o.op = Op.mapUpdate t m x v)
    (kt et : TypeId) (ht : P.underlying t = some (.map kt et)) (hk : P.underlying kt = some (.int .i64)) (mb : Nat) (es : List (Int × Value)) (k : Int) (val : Value) (hm : a.eval m = .map (some mb)) (hx : a.eval x = .int .i64 k) (hv : a.eval v = val)
    (h : MapIs w mb es) (hK : ∀ w', MapIs w' mb (mput k val es) → Keeps (fun k => k = mb) w w' → wpList P ops Q rest (a.put o.dst undef) w') :
    wpList P ops Q (o :: rest) a w := by
  refine wpList_plain hg fun K' hK' => ?_
  obtain ⟨o', hrun, r1⟩ := h.store ht hk k val
  unfold Oper.wp
  simp [execOp, hop, hm, hx, hv, hrun, Result.andThen]
  exact hK' _ _ (hK _ r1 ((Keeps.refl (fun k => k = mb) _).putB (.inl rfl) _))
theorem wpList_mapDrop {P : Program} {ops : Array Oper} {Q : Exit → Act → World → Prop} {rest : List Oper} {o : Oper} {a : Act} {w : World} (hg : o.guard = none) (m x : Operand) (t kt : TypeId) (hop : o.op = Op.call { callee := Callee.builtin Builtin.delete, args := #[m, x], argTypes := #[t, kt] })
    (et : TypeId) (ht : P.underlying t = some (.map kt et)) (hk : P.underlying kt = some (.int .i64)) (mb : Nat) (es : List (Int × Value)) (k : Int) (hm : a.eval m = .map (some mb)) (hx : a.eval x = .int .i64 k)
    (h : MapIs w mb es) (hK : ∀ w', MapIs w' mb (mdel k es) → Keeps (fun k => k = mb) w w' → wpList P ops Q rest (a.put o.dst (.tuple #[])) w') :
    wpList P ops Q (o :: rest) a w := by
  refine wpList_plain hg fun K' hK' => ?_
  obtain ⟨o', hrun, r1⟩ := h.drop ht hk k o.type
  unfold Oper.wp
  simp [execOp, hop, resolve, invoke, builtin, hm, hx, hrun, Result.andThen]
  exact hK' _ _ (hK _ r1 ((Keeps.refl (fun k => k = mb) _).putB (.inl rfl) _))
theorem MapIs.not_block {w : World} {b m : Nat} {es : List (Int × Value)} {cs : List Value} (h : MapIs w m es) (k : BlockIs w b cs) : m ≠ b := by
  rintro rfl
  obtain ⟨E, clock, h, _⟩ := h
  obtain ⟨T, k⟩ := k
  rw [h] at k; cases k
end Go.Proofs.YtbekmflfmmcffaaGreat
