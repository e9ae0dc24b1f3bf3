/- Scripts of calls on a wheel that came in. -/
import Derived.Test.YtilkfcpdeeaifaaInts
set_option linter.unusedVariables false
set_option linter.unusedSimpArgs false
set_option linter.unusedSectionVars false
namespace Go.Proofs.Ytilkfcpdeeaifaa
open Go.RowKit Go.ChangeShapes Go.WideShapes
structure Op3 where
  what : Int
  id : Int
  n : Int
def Op3.cells (o : Op3) : List Value := [.int .i64 o.what, .int .i64 o.id, .int .i64 o.n]
def Op3.fits (o : Op3) : Prop := (Lit.int .i64 o.what).wf = true ∧ (Lit.int .i64 o.id).wf = true ∧ (Lit.int .i64 o.n).wf = true
set_option maxRecDepth 100000 in
theorem open_op {H : Type} {enc : TypeId × Value → H} {w : World} {fuel : Nat} {cs : List Value} {x : DataW H × List MemPlace}
    (h : DataW.trod enc Try.prog w 0 (fun _ => true) true fuel 41 cs = some x) : ∃ y : Op3, cs = y.cells ∧ y.fits := by
  obtain ⟨xs, n, rfl, _, hl, hxl, hf⟩ := DataW.trod_struct Try.underlying41 h
  have e3 : Try.prog.cellsOf 41 = 3 := by kernel_rfl
  have e9 : Try.prog.cellsOf 3 = 1 := by kernel_rfl
  rw [e3] at hl
  match xs, hxl, cs, hl with
  | [y0, y1, y2], _, [c0, c1, c2], _ =>
    have g0 := hf 0 _ rfl
    have g1 := hf 1 _ rfl
    have g2 := hf 2 _ rfl
    simp [e9] at g0 g1 g2
    obtain ⟨s0, h0, _, w0⟩ := DataW.trod_int Try.underlying3 g0
    obtain ⟨s1, h1, _, w1⟩ := DataW.trod_int Try.underlying3 g1
    obtain ⟨s2, h2, _, w2⟩ := DataW.trod_int Try.underlying3 g2
    simp only [List.cons.injEq, and_true] at h0 h1 h2
    subst h0; subst h1; subst h2
    exact ⟨⟨s0, s1, s2⟩, rfl, w0, w1, w2⟩
def OpsAt (w : World) (A : Option Addr) (l : List Op3) : Prop := RowIs w A l.length 3 (l.map Op3.cells)
theorem OpsAt.below {w w' : World} {A : Option Addr} {l : List Op3} (h : OpsAt w A l) (hb : Below w.heap.size w w') : OpsAt w' A l := RowIs.below h hb
theorem OpsAt.get {w : World} {A : Option Addr} {l : List Op3} (h : OpsAt w A l) (i : Nat) (hi : i < l.length) : ∃ g o, A = some ⟨g, o, none⟩ ∧
    w.cell? ⟨g, o + i * 3, none⟩ = some (.int .i64 l[i].what) ∧ w.cell? ⟨g, o + i * 3 + 1, none⟩ = some (.int .i64 l[i].id) ∧ w.cell? ⟨g, o + i * 3 + 2, none⟩ = some (.int .i64 l[i].n) ∧ g < w.heap.size := by
  obtain ⟨⟨g, o, sp⟩, e, hlt, hc⟩ := h.2 (by omega)
  have h0 := (hc 0 (Op3.cells l[0]) (by simp [Nat.lt_of_le_of_lt (Nat.zero_le i) hi])).2 0 _ rfl
  have hsp : sp = none := by
    have := World.cell?_spot h0
    simpa [Addr.add] using this
  subst hsp
  obtain ⟨_, hc⟩ := hc i (Op3.cells l[i]) (by simp [hi])
  refine ⟨g, o, e, ?_, ?_, ?_, hlt⟩
  · have := hc 0 _ rfl
    rw [add_none, add_none] at this
    exact this
  · have := hc 1 _ rfl
    rw [add_none, add_none] at this
    exact this
  · have := hc 2 _ rfl
    rw [add_none, add_none] at this
    exact this
set_option maxRecDepth 100000 in
theorem open_hl {H : Type} {enc : TypeId × Value → H} {w : World} {fuel : Nat} {cs : List Value} {x : DataW H × List MemPlace}
    (h : DataW.trod enc Try.prog w 0 (fun _ => true) true fuel 27 cs = some x) : ∃ f r k : Int, cs = [.int .i64 f, .int .i64 r, .int .i64 k] := by
  obtain ⟨xs, n, rfl, _, hl, hxl, hf⟩ := DataW.trod_struct Try.underlying27 h
  have e3 : Try.prog.cellsOf 27 = 3 := by kernel_rfl
  have e9 : Try.prog.cellsOf 3 = 1 := by kernel_rfl
  rw [e3] at hl
  match xs, hxl, cs, hl with
  | [y0, y1, y2], _, [c0, c1, c2], _ =>
    have g0 := hf 0 _ rfl
    have g1 := hf 1 _ rfl
    have g2 := hf 2 _ rfl
    simp [e9] at g0 g1 g2
    obtain ⟨s0, h0, _, w0⟩ := DataW.trod_int Try.underlying3 g0
    obtain ⟨s1, h1, _, w1⟩ := DataW.trod_int Try.underlying3 g1
    obtain ⟨s2, h2, _, w2⟩ := DataW.trod_int Try.underlying3 g2
    simp only [List.cons.injEq, and_true] at h0 h1 h2
    subst h0; subst h1; subst h2
    exact ⟨s0, s1, s2, rfl⟩
theorem open_health {H : Type} {enc : TypeId × Value → H} {w : World} {a : Array Value} {d : DataW H} {p : List MemPlace} (h : DataW.Trod enc Try.prog w 0 (fun _ => true) true 27 (.agg a) d p) : ∃ f r k : Int, a = #[.int .i64 f, .int .i64 r, .int .i64 k] := by
  obtain ⟨fuel, hf⟩ := h
  obtain ⟨f, r, k, e⟩ := open_hl (cs := a.toList) (by simpa [Value.cells] using hf)
  exact ⟨f, r, k, by cases a; simpa using e⟩
end Go.Proofs.Ytilkfcpdeeaifaa
