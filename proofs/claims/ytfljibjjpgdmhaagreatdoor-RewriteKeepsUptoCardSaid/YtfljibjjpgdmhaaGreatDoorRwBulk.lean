/- A list of headers that came in, with its bulk. -/
import Derived.Test.YtfljibjjpgdmhaaGreatDoorRwSpec
import Derived.Test.YtfljibjjpgdmhaaGreatDoorRows
import Derived.Deep.DeepHandedRow
set_option linter.unusedVariables false
set_option linter.unusedSimpArgs false
set_option linter.unusedSectionVars false
namespace Go.Proofs.YtfljibjjpgdmhaaGreatDoor
open Go.RowKit Go.ChangeShapes Go.WideShapes
theorem bulk_one {H : Type} (d : DataW H) : 1 ≤ Rows.uptoBulk d := by
  cases d with
  | lit l => cases l <;> simp [Rows.uptoBulk]
  | nil => simp [Rows.uptoBulk]
  | ptr d => simp [Rows.uptoBulk]
  | slice elems spare => simp [Rows.uptoBulk]
  | agg parts => simp [Rows.uptoBulk]
  | iface t d => simp [Rows.uptoBulk]
  | map entries => simp [Rows.uptoBulk]
  | held h => simp [Rows.uptoBulk]
theorem bulk_length {H : Type} (l : List (DataW H)) : l.length ≤ Rows.uptoBulkAll l := by
  induction l with
  | nil => simp [Rows.uptoBulkAll]
  | cons x r ih => have := bulk_one x; simp only [Rows.uptoBulkAll, List.length_cons]; omega
theorem bulk_slice {H : Type} (es sp : List (DataW H)) : Rows.uptoBulk (.slice es sp) = Rows.uptoBulkAll es + Rows.uptoBulkAll sp + 1 := by
  simp [Rows.uptoBulk]
theorem bulk_agg {H : Type} (ps : List (DataW H)) : Rows.uptoBulk (.agg ps) = Rows.uptoBulkAll ps + 1 := by
  simp [Rows.uptoBulk]
theorem bulk_cons {H : Type} (d : DataW H) (r : List (DataW H)) : Rows.uptoBulkAll (d :: r) = Rows.uptoBulk d + Rows.uptoBulkAll r := by
  simp [Rows.uptoBulkAll]
theorem bulk_string {H : Type} (s : List UInt8) : Rows.uptoBulk (.lit (.string s) : DataW H) = s.length + 1 := by
  simp [Rows.uptoBulk]
set_option maxRecDepth 100000 in
theorem open_hdrB {H : Type} {enc : TypeId × Value → H} {w : World} {fuel : Nat} {cs : List Value} {x : DataW H × List MemPlace}
    (h : DataW.trod enc Tryz.prog w 0 (fun _ => true) true fuel 35 cs = some x) : ∃ y : Hdr, cs = y.cells ∧ y.name.size + y.value.size + 4 ≤ Rows.uptoBulk x.1 := by
  obtain ⟨xs, n, rfl, hx, hl, hxl, hf⟩ := DataW.trod_struct Tryz.underlying35 h
  have e3 : Tryz.prog.cellsOf 35 = 3 := by kernel_rfl
  have e9 : Tryz.prog.cellsOf 9 = 1 := by kernel_rfl
  have e4 : Tryz.prog.cellsOf 4 = 1 := by kernel_rfl
  rw [e3] at hl
  match xs, hxl, cs, hl, hx with
  | [y0, y1, y2], _, [c0, c1, c2], _, hx =>
    have g0 := hf 0 _ rfl
    have g1 := hf 1 _ rfl
    have g2 := hf 2 _ rfl
    simp [e9, e4] at g0 g1 g2
    obtain ⟨s0, h0, d0, w0⟩ := DataW.trod_string Tryz.underlying9 g0
    obtain ⟨s1, h1, d1, w1⟩ := DataW.trod_string Tryz.underlying9 g1
    obtain ⟨b, h2, _⟩ := DataW.trod_bool Tryz.underlying4 g2
    simp only [List.cons.injEq, and_true] at h0 h1 h2
    subst h0; subst h1; subst h2
    refine ⟨⟨s0, s1, b⟩, rfl, ?_⟩
    rw [hx]
    have b2 := bulk_one y2.1
    have q0 : y0.1 = .lit (.string s0.data.toList) := congrArg Prod.fst d0
    have q1 : y1.1 = .lit (.string s1.data.toList) := congrArg Prod.fst d1
    show s0.size + s1.size + 4 ≤ Rows.uptoBulk (.agg [y0.1, y1.1, y2.1])
    rw [bulk_agg, bulk_cons, bulk_cons, bulk_cons, q0, q1, bulk_string, bulk_string, size_dl, size_dl]
    omega
theorem bulk_sumH {H : Type} (O : Nat → Hdr) (D : Nat → DataW H) : ∀ (n : Nat), (∀ i, i < n → (O i).name.size + (O i).value.size + 4 ≤ Rows.uptoBulk (D i)) → bulkH ((List.range n).map O) ≤ Rows.uptoBulkAll ((List.range n).map D) := by
  have app : ∀ (l r : List (DataW H)), Rows.uptoBulkAll (l ++ r) = Rows.uptoBulkAll l + Rows.uptoBulkAll r := by
    intro l r
    induction l with
    | nil => simp [Rows.uptoBulkAll]
    | cons x l ih => simp only [List.cons_append, Rows.uptoBulkAll, ih]; omega
  intro n
  induction n with
  | zero => intro _; simp [bulkH]
  | succ n ih =>
    intro h
    have h1 := ih (fun i hi => h i (by omega))
    have h2 := h n (by omega)
    rw [List.range_succ, List.map_append, List.map_append, app, bulk_app]
    have e1 : bulkH ([n].map O) = (O n).name.size + (O n).value.size + 4 := by simp [bulkH]
    have e2 : Rows.uptoBulkAll ([n].map D) = Rows.uptoBulk (D n) := by simp [Rows.uptoBulkAll]
    rw [e1, e2]
    omega
theorem open_hdrs {H : Type} {enc : TypeId × Value → H} {w : World} {A : Option Addr} {len cap : Nat} {d : DataW H} {ps : List MemPlace}
    (h : DataW.Trod enc Tryz.prog w 0 (fun _ => true) true 22 (.slice A len cap) d ps) :
    ∃ l : List Hdr, len = l.length ∧ HdrsAt w A l ∧ l.length ≤ cap ∧ bulkH l ≤ Rows.uptoBulk d ∧ (A = none → cap = 0) := by
  obtain ⟨fuel, hf⟩ := h
  have hs : Tryz.prog.cellsOf 35 = 3 := by kernel_rfl
  rcases Deep.open_slice Tryz.underlying22 hf with ⟨hcs, hx⟩ | ⟨a, l, c, m, n, D, Pl, hcs, _, hl, hm, hmm, hx, hel⟩
  · simp [Value.cells] at hcs
    obtain ⟨rfl, rfl, rfl⟩ := hcs
    exact ⟨[], rfl, ⟨rfl, fun h0 => absurd h0 (Nat.lt_irrefl _)⟩, Nat.zero_le _, Nat.zero_le _, fun _ => rfl⟩
  · simp [Value.cells] at hcs
    obtain ⟨rfl, rfl, rfl⟩ := hcs
    simp only [if_true] at hmm
    subst hmm
    rw [hs] at hel
    have key : ∀ i, i < m → ∃ y : Hdr, w.cells? 0 (a.add (i * 3)) 3 = some y.cells ∧ y.name.size + y.value.size + 4 ≤ Rows.uptoBulk (D i) := by
      intro i hi
      obtain ⟨cs', h1, h2⟩ := hel i hi
      obtain ⟨y, rfl, q⟩ := open_hdrB h2
      exact ⟨y, h1, q⟩
    obtain ⟨O, hO⟩ := Deep.choose_lt key
    have hd : d = _ := (Prod.mk.inj hx).1
    refine ⟨(List.range len).map O, by simp, ⟨by simp, fun h0 => ⟨a, rfl, ?_, ?_⟩⟩, by simpa using hl, ?_, fun h => by cases h⟩
    · have h1 := (World.cells?_some (hO 0 (Nat.lt_of_lt_of_le (by simpa using h0) hl)).1).2
      have h2 := h1.2 0 (by decide)
      have h3 := World.block_lt_of_cell? w _ h2
      simpa [Addr.add] using h3
    · intro i cs hi
      have hil : i < len := by
        have := (List.getElem?_eq_some_iff.1 hi).1
        simpa using this
      simp [hil] at hi
      subst hi
      have h1 := (World.cells?_some (hO i (by omega)).1).2
      refine ⟨rfl, fun j u hj => ?_⟩
      have hjs : j < 3 := by
        have := (List.getElem?_eq_some_iff.1 hj).1
        simpa [Hdr.cells] using this
      rw [h1.2 j hjs]; exact hj
    · have h5 := bulk_sumH O D len (fun i hi => (hO i (by omega)).2)
      rw [hd, bulk_slice]
      omega
end Go.Proofs.YtfljibjjpgdmhaaGreatDoor
