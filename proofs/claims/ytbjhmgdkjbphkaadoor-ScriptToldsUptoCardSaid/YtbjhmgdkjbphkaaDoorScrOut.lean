/- A list of what was done, that came in. -/
import Derived.Test.YtbjhmgdkjbphkaaDoorScrTolds
import Derived.Test.YtbjhmgdkjbphkaaDoorScrIn
import Derived.Test.YtbjhmgdkjbphkaaDoorRows
set_option linter.unusedVariables false
set_option linter.unusedSimpArgs false
set_option linter.unusedSectionVars false
namespace Go.Proofs.YtbjhmgdkjbphkaaDoor
open Go.RowKit Go.ChangeShapes Go.WideShapes
theorem bulk_one {H : Type} (d : DataW H) : 1 ≤ Rows.uptoBulk d := by
  cases d with
  | lit l => cases l <;> simp [Rows.uptoBulk]
  | nil => simp [Rows.uptoBulk]
  | ptr d => simp [Rows.uptoBulk]
  | slice elems spare => simp [Rows.uptoBulk]
  | agg parts => simp [Rows.uptoBulk]
  | iface t d => simp [Rows.uptoBulk]
  | map entries => simp [Rows.uptoBulk]
  | held h => simp [Rows.uptoBulk]
theorem bulk_length {H : Type} (l : List (DataW H)) : l.length ≤ Rows.uptoBulkAll l := by
  induction l with
  | nil => simp [Rows.uptoBulkAll]
  | cons x r ih => have := bulk_one x; simp only [Rows.uptoBulkAll, List.length_cons]; omega
theorem bulk_slice {H : Type} (es sp : List (DataW H)) : Rows.uptoBulk (.slice es sp) = Rows.uptoBulkAll es + Rows.uptoBulkAll sp + 1 := by
  simp [Rows.uptoBulk]
theorem bulk_agg {H : Type} (ps : List (DataW H)) : Rows.uptoBulk (.agg ps) = Rows.uptoBulkAll ps + 1 := by
  simp [Rows.uptoBulk]
theorem bulk_cons {H : Type} (d : DataW H) (r : List (DataW H)) : Rows.uptoBulkAll (d :: r) = Rows.uptoBulk d + Rows.uptoBulkAll r := by
  simp [Rows.uptoBulkAll]
theorem open_bytes_bulk {H : Type} {enc : TypeId × Value → H} {w : World} {fuel : Nat} {c : Value} {x : DataW H × List MemPlace}
    (h : DataW.trod enc Tryd.prog w 0 (fun _ => true) true fuel 22 [c] = some x) :
    ∃ (A : Option Addr) (cap : Nat) (l : List Int), c = .slice A l.length cap ∧ BytesAt w A l ∧ l.length + 1 ≤ Rows.uptoBulk x.1 ∧ ∀ y ∈ l, (Lit.int .u8 y).wf = true := by
  obtain ⟨A, len, cap, rfl⟩ : ∃ A len cap, c = .slice A len cap := by
    rcases Deep.open_slice Tryd.underlying22 h with ⟨hcs, _⟩ | ⟨a, l, c', m, n, D, Pl, hcs, _⟩
    · exact ⟨none, 0, 0, by simpa using hcs⟩
    · exact ⟨some a, l, c', by simpa using hcs⟩
  obtain ⟨d, ps⟩ := x
  have hT : DataW.Trod enc Tryd.prog w 0 (fun _ => true) true 22 (.slice A len cap) d ps := ⟨fuel, by simpa [Value.cells] using h⟩
  obtain ⟨xs, hx, hc, hm, hn, he, hf⟩ := open_row Tryd.underlying22 (size := 1) (by kernel_rfl) (by decide) hT
  obtain ⟨l, rfl, hg⟩ := typed_row (f := u8Cells) (fun cs hcs => (by obtain ⟨n, y, hy⟩ := hf cs hcs; exact open_u8 hy))
  obtain rfl : len = l.length := by have := hx.1; simpa using this.symm
  refine ⟨A, cap, l, rfl, hx, ?_, hg⟩
  rcases he with ⟨rfl, h0⟩ | ⟨es, sp, rfl, hes⟩
  · have := bulk_one (H := H) .nil
    show l.length + 1 ≤ Rows.uptoBulk (.nil : DataW H)
    omega
  · have h1 := bulk_length es
    have h2 := bulk_length sp
    show l.length + 1 ≤ Rows.uptoBulk (.slice es sp)
    rw [bulk_slice]
    omega
set_option maxRecDepth 100000 in
theorem open_out3 {H : Type} {enc : TypeId × Value → H} {w : World} {fuel : Nat} {cs : List Value} {x : DataW H × List MemPlace}
    (h : DataW.trod enc Tryd.prog w 0 (fun _ => true) true fuel 49 cs = some x) :
    ∃ o : Out3, cs = o.cells ∧ BytesAt w o.A o.bs ∧ o.fits ∧ o.bs.length + 4 ≤ Rows.uptoBulk x.1 := by
  obtain ⟨xs, n, rfl, hx, hl, hxl, hf⟩ := DataW.trod_struct Tryd.underlying49 h
  have e3 : Tryd.prog.cellsOf 49 = 3 := by kernel_rfl
  have e9 : Tryd.prog.cellsOf 3 = 1 := by kernel_rfl
  have e8 : Tryd.prog.cellsOf 22 = 1 := by kernel_rfl
  rw [e3] at hl
  match xs, hxl, cs, hl, hx with
  | [y0, y1, y2], _, [c0, c1, c2], _, hx =>
    have g0 := hf 0 _ rfl
    have g1 := hf 1 _ rfl
    have g2 := hf 2 _ rfl
    simp [e9, e8] at g0 g1 g2
    obtain ⟨s0, h0, _, w0⟩ := DataW.trod_int Tryd.underlying3 g0
    obtain ⟨s1, h1, _, w1⟩ := DataW.trod_int Tryd.underlying3 g1
    simp only [List.cons.injEq, and_true] at h0 h1
    subst h0; subst h1
    obtain ⟨A, cap, l, rfl, k1, k2, k3⟩ := open_bytes_bulk g2
    refine ⟨⟨s0, s1, A, cap, l⟩, rfl, k1, ?_, ?_⟩
    · simp [Lit.wf, IntKind.min, IntKind.max, IntKind.signed, IntKind.bits] at w1
      exact ⟨by show -9223372036854775808 ≤ s1; omega, by show s1 ≤ 9223372036854775807; omega, k3⟩
    · rw [hx]
      have b0 := bulk_one y0.1
      have b1 := bulk_one y1.1
      show l.length + 4 ≤ Rows.uptoBulk (.agg [y0.1, y1.1, y2.1])
      rw [bulk_agg, bulk_cons, bulk_cons, bulk_cons]
      omega
theorem bulk_sum {H : Type} (O : Nat → Out3) (D : Nat → DataW H) : ∀ (n : Nat), (∀ i, i < n → (O i).bs.length + 4 ≤ Rows.uptoBulk (D i)) → bulkO ((List.range n).map O) ≤ Rows.uptoBulkAll ((List.range n).map D) := by
  have app : ∀ (l r : List (DataW H)), Rows.uptoBulkAll (l ++ r) = Rows.uptoBulkAll l + Rows.uptoBulkAll r := by
    intro l r
    induction l with
    | nil => simp [Rows.uptoBulkAll]
    | cons x l ih => simp only [List.cons_append, Rows.uptoBulkAll, ih]; omega
  have app2 : ∀ (l r : List Out3), bulkO (l ++ r) = bulkO l + bulkO r := by
    intro l r
    simp [bulkO]
  intro n
  induction n with
  | zero => intro _; simp [bulkO]
  | succ n ih =>
    intro h
    have h1 := ih (fun i hi => h i (by omega))
    have h2 := h n (by omega)
    rw [List.range_succ, List.map_append, List.map_append, app, app2]
    have e1 : bulkO ([n].map O) = (O n).bs.length + 4 := by simp [bulkO]
    have e2 : Rows.uptoBulkAll ([n].map D) = Rows.uptoBulk (D n) := by simp [Rows.uptoBulkAll]
    rw [e1, e2]
    omega
instance : Inhabited Out3 := ⟨⟨0, 0, none, 0, []⟩⟩
theorem open_outs {H : Type} {enc : TypeId × Value → H} {w : World} {A : Option Addr} {len cap : Nat} {d : DataW H} {ps : List MemPlace}
    (h : DataW.Trod enc Tryd.prog w 0 (fun _ => true) true 32 (.slice A len cap) d ps) :
    ∃ l : List Out3, len = l.length ∧ OutsAt w A l ∧ (∀ o ∈ l, o.fits) ∧ bulkO l ≤ Rows.uptoBulk d := by
  obtain ⟨fuel, hf⟩ := h
  have hs : Tryd.prog.cellsOf 49 = 3 := by kernel_rfl
  rcases Deep.open_slice Tryd.underlying32 hf with ⟨hcs, hx⟩ | ⟨a, l, c, m, n, D, Pl, hcs, _, hl, hm, hmm, hx, hel⟩
  · simp [Value.cells] at hcs
    obtain ⟨rfl, rfl, rfl⟩ := hcs
    exact ⟨[], rfl, ⟨⟨rfl, fun h0 => absurd h0 (Nat.lt_irrefl _)⟩, (fun o ho => by cases ho)⟩, (fun o ho => by cases ho), Nat.zero_le _⟩
  · simp [Value.cells] at hcs
    obtain ⟨rfl, rfl, rfl⟩ := hcs
    simp only [if_true] at hmm
    subst hmm
    rw [hs] at hel
    have key : ∀ i, i < m → ∃ o : Out3, w.cells? 0 (a.add (i * 3)) 3 = some o.cells ∧ BytesAt w o.A o.bs ∧ o.fits ∧ o.bs.length + 4 ≤ Rows.uptoBulk (D i) := by
      intro i hi
      obtain ⟨cs', h1, h2⟩ := hel i hi
      obtain ⟨o, rfl, q1, q2, q3⟩ := open_out3 h2
      exact ⟨o, h1, q1, q2, q3⟩
    obtain ⟨O, hO⟩ := Deep.choose_lt key
    have hd : d = _ := (Prod.mk.inj hx).1
    refine ⟨(List.range len).map O, by simp, ⟨⟨by simp, fun h0 => ⟨a, rfl, ?_, ?_⟩⟩, ?_⟩, ?_, ?_⟩
    · have h1 := (World.cells?_some (hO 0 (Nat.lt_of_lt_of_le (by simpa using h0) hl)).1).2
      have h2 := h1.2 0 (by decide)
      have h3 := World.block_lt_of_cell? w _ h2
      simpa [Addr.add] using h3
    · intro i cs hi
      have hil : i < len := by
        have := (List.getElem?_eq_some_iff.1 hi).1
        simpa using this
      simp [hil] at hi
      subst hi
      have h1 := (World.cells?_some (hO i (by omega)).1).2
      refine ⟨rfl, fun j u hj => ?_⟩
      have hjs : j < 3 := by
        have := (List.getElem?_eq_some_iff.1 hj).1
        simpa [Out3.cells] using this
      rw [h1.2 j hjs]; exact hj
    · intro o ho
      obtain ⟨i, hi, rfl⟩ := List.mem_map.1 ho
      exact (hO i (by have := List.mem_range.1 hi; omega)).2.1
    · intro o ho
      obtain ⟨i, hi, rfl⟩ := List.mem_map.1 ho
      exact (hO i (by have := List.mem_range.1 hi; omega)).2.2.1
    · have h5 := bulk_sum O D len (fun i hi => (hO i (by omega)).2.2.2)
      rw [hd, bulk_slice]
      omega
end Go.Proofs.YtbjhmgdkjbphkaaDoor
