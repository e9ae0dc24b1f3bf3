/- An event that came in. -/
import Derived.Test.YtbjhmgdkjbphkaaDoorBytes
set_option linter.unusedVariables false
set_option linter.unusedSimpArgs false
set_option linter.unusedSectionVars false
namespace Go.Proofs.YtbjhmgdkjbphkaaDoor
open Go.RowKit Go.ChangeShapes Go.WideShapes
theorem weights_at {H : Type} {P : Program} {ts : List TypeId} {ds : List (DataW H)} (h : (DataW.weightsEach P ts ds).all (· ≤ reachBytes) = true) {j : Nat} {t : TypeId} {d : DataW H} (ht : ts[j]? = some t) (hd : ds[j]? = some d) : (d.weights P t).all (· ≤ reachBytes) = true :=
  List.all_eq_true.2 fun n hn => List.all_eq_true.1 h n (DataW.weights_mem_each ht hd n hn)
/-- A slice of bytes that stands in a cell. -/
theorem open_bytes {H : Type} {enc : TypeId × Value → H} {w : World} {fuel : Nat} {c : Value} {x : DataW H × List MemPlace}
    (h : DataW.trod enc Tryd.prog w 0 (fun _ => true) true fuel 22 [c] = some x) (hw : (x.1.weights Tryd.prog 22).all (· ≤ reachBytes) = true) :
    ∃ (A : Option Addr) (cap : Nat) (l : List Int), c = .slice A l.length cap ∧ BytesAt w A l ∧ l.length * 1 ≤ 140737488351232 ∧ ∀ y ∈ l, (Lit.int .u8 y).wf = true := by
  obtain ⟨A, len, cap, rfl⟩ : ∃ A len cap, c = .slice A len cap := by
    rcases Deep.open_slice Tryd.underlying22 h with ⟨hcs, _⟩ | ⟨a, l, c', m, n, D, Pl, hcs, _⟩
    · exact ⟨none, 0, 0, by simpa using hcs⟩
    · exact ⟨some a, l, c', by simpa using hcs⟩
  obtain ⟨d, ps⟩ := x
  have hT : DataW.Trod enc Tryd.prog w 0 (fun _ => true) true 22 (.slice A len cap) d ps := ⟨fuel, by simpa [Value.cells] using h⟩
  obtain ⟨xs, hx, hc, hm, hn, he, hf⟩ := open_row Tryd.underlying22 (size := 1) (by kernel_rfl) (by decide) hT
  have hz : cap * 1 ≤ 140737488351232 := sized_row (ts := [22]) (ds := [d]) (by simpa [DataW.weightsEach] using hw) (j := 0) rfl rfl Tryd.underlying22 (by kernel_rfl) he
  obtain ⟨l, rfl, hg⟩ := typed_row (f := u8Cells) (fun cs hcs => (by obtain ⟨n, y, hy⟩ := hf cs hcs; exact open_u8 hy))
  obtain rfl : len = l.length := by have := hx.1; simpa using this.symm
  exact ⟨A, cap, l, rfl, hx, Nat.le_trans (Nat.mul_le_mul_right _ hc) hz, hg⟩
set_option maxRecDepth 100000 in
theorem open_in5 {H : Type} {enc : TypeId × Value → H} {w : World} {fuel : Nat} {cs : List Value} {x : DataW H × List MemPlace}
    (h : DataW.trod enc Tryd.prog w 0 (fun _ => true) true fuel 24 cs = some x) (hw : (x.1.weights Tryd.prog 24).all (· ≤ reachBytes) = true) :
    ∃ (what a b d : Int) (A : Option Addr) (cap : Nat) (l : List Int), cs = [.int .i64 what, .int .i64 a, .int .i64 b, .int .i64 d, .slice A l.length cap] ∧ BytesAt w A l ∧ l.length * 1 ≤ 140737488351232 ∧ ∀ y ∈ l, (Lit.int .u8 y).wf = true := by
  obtain ⟨xs, n, rfl, hx, hl, hxl, hf⟩ := DataW.trod_struct Tryd.underlying24 h
  have e3 : Tryd.prog.cellsOf 24 = 5 := by kernel_rfl
  have e9 : Tryd.prog.cellsOf 3 = 1 := by kernel_rfl
  have e8 : Tryd.prog.cellsOf 22 = 1 := by kernel_rfl
  rw [e3] at hl
  match xs, hxl, cs, hl, hx with
  | [y0, y1, y2, y3, y4], _, [c0, c1, c2, c3, c4], _, hx =>
    have g0 := hf 0 _ rfl
    have g1 := hf 1 _ rfl
    have g2 := hf 2 _ rfl
    have g3 := hf 3 _ rfl
    have g4 := hf 4 _ rfl
    simp [e9, e8] at g0 g1 g2 g3 g4
    obtain ⟨s0, h0, _, w0⟩ := DataW.trod_int Tryd.underlying3 g0
    obtain ⟨s1, h1, _, w1⟩ := DataW.trod_int Tryd.underlying3 g1
    obtain ⟨s2, h2, _, w2⟩ := DataW.trod_int Tryd.underlying3 g2
    obtain ⟨s3, h3, _, w3⟩ := DataW.trod_int Tryd.underlying3 g3
    simp only [List.cons.injEq, and_true] at h0 h1 h2 h3
    subst h0; subst h1; subst h2; subst h3
    have hw4 : (y4.1.weights Tryd.prog 22).all (· ≤ reachBytes) = true := by
      rw [hx] at hw
      have hu : Tryd.prog.underlying 24 = some (.struct _) := Tryd.underlying24
      refine List.all_eq_true.2 fun n hn => List.all_eq_true.1 hw n ?_
      simp only [DataW.weights, hu, List.map_cons, List.map_nil]
      exact DataW.weights_mem_each (j := 4) rfl rfl n hn
    obtain ⟨A, cap, l, rfl, k1, k2, k3⟩ := open_bytes g4 hw4
    exact ⟨s0, s1, s2, s3, A, cap, l, rfl, k1, k2, k3⟩
theorem open_in {H : Type} {enc : TypeId × Value → H} {w : World} {a : Array Value} {d : DataW H} {p : List MemPlace} (h : DataW.Trod enc Tryd.prog w 0 (fun _ => true) true 24 (.agg a) d p) (hw : (d.weights Tryd.prog 24).all (· ≤ reachBytes) = true) :
    ∃ (what x b dr : Int) (A : Option Addr) (cap : Nat) (l : List Int), a = #[.int .i64 what, .int .i64 x, .int .i64 b, .int .i64 dr, .slice A l.length cap] ∧ BytesAt w A l ∧ l.length * 1 ≤ 140737488351232 ∧ ∀ y ∈ l, (Lit.int .u8 y).wf = true := by
  obtain ⟨fuel, hf⟩ := h
  obtain ⟨what, x, b, dr, A, cap, l, e, k⟩ := open_in5 (cs := a.toList) (by simpa [Value.cells] using hf) hw
  exact ⟨what, x, b, dr, A, cap, l, by cases a; simpa using e, k⟩
end Go.Proofs.YtbjhmgdkjbphkaaDoor
