/- The reference streams' List, and the law's comparison of two rows of ints. -/
import Derived.Test.YtfhcafpocmapkaaRStrDrop
import Derived.Test.YtfhcafpocmapkaaStrTwo
set_option linter.unusedVariables false
set_option linter.unusedSimpArgs false
set_option linter.unusedSectionVars false
namespace Go.Proofs.Ytfhcafpocmapkaa
open Go.RowKit
/-- The numbers of a row that is owned. -/
theorem OwnsO.nums {base : Nat} {w : World} {v : Value} {xs : List Int} (h : OwnsO base w v xs) : ∃ p cap, v = .slice p xs.length cap ∧ ∀ j (hj : j < xs.length), ∃ g o, p = some ⟨g, o, none⟩ ∧ w.cell? ⟨g, o + j, none⟩ = some (.int .i64 xs[j]) := by
  obtain ⟨p, cap, hv, _, _, hc⟩ := h.form
  refine ⟨p, cap, hv, fun j hj => ?_⟩
  obtain ⟨g, o, e1, e2, _⟩ := hc j hj
  exact ⟨g, o, e1, e2⟩
theorem grown_below {n : Nat} {w w1 w2 : World} {row : Option Nat} (h : Below n w w1) (hg : w1.grownBy w2 row) (hn : n ≤ w1.heap.size) (hr : ∀ x, row = some x → n ≤ x) : Below n w w2 :=
  h.trans ⟨hg.os, hg.tape, hg.output, hg.size, fun k hk => hg.block k (Nat.lt_of_lt_of_le hk hn) (fun e => by have := hr k e.symm; omega)⟩
set_option maxHeartbeats 1000000 in
set_option maxRecDepth 100000 in
theorem ints10_same {B B' : Nat} {w : World} {v v' : Value} {xs : List Int} (h : OwnsO B w v xs) (h' : OwnsO B' w v' xs) (hn : xs.length ≤ 1048576) :
    Calls Try.prog 29 #[v, v'] w fun e w' => e = .returned (.bool true) ∧ Below w.heap.size w w' := by
  obtain ⟨p, cap, rfl, hc⟩ := h.nums
  obtain ⟨p', cap', rfl, hc'⟩ := h'.nums
  have HC := Lib.hid hc
  have HC' := Lib.hid hc'
  clear h h' hc hc'
  go_enter Try.func29, Try.ntmps29
  go_wp2_with fail
  go_loopw [5] (fun i wr => ∃ k : Nat, k ≤ xs.length ∧ i = .int .i64 k ∧ Hid (Below w.heap.size w wr)) (fun i _ => xs.length - (intOf i).toNat)
  case atStart => exact ⟨0, by omega, rfl, Lib.hid (Below.refl _ _)⟩
  case round =>
    obtain ⟨k, hk, rfl, HB⟩ := hrel
    by_cases hlt : k < xs.length
    · obtain ⟨g, o, hg, c0⟩ := HC.out k hlt
      obtain ⟨g', o', hg', c1⟩ := HC'.out k hlt
      subst hg
      subst hg'
      have d0 := (HB.out.cell (World.block_lt_of_cell? w _ c0)).trans c0
      have d1 := (HB.out.cell (World.block_lt_of_cell? w _ c1)).trans c1
      clear c0 c1
      go_wp2_with fail
      try go_region
      try go_wp2_with fail
      go_roundw
      case rel => exact ⟨k + 1, by omega, by go_num, Lib.hid (by first | exact HB.out | exact HB.out.drew)⟩
      case measure => simp [intOf]; omega
    · obtain rfl : k = xs.length := by omega
      go_wp2_with fail
      go_ret
      exact ⟨rfl, HB.out⟩
section
variable {base xb : Nat} {w : World} {lv gv : Value} {s : RS}
set_option maxHeartbeats 2000000 in
set_option maxRecDepth 100000 in
theorem rlist_any (h : RAt base w xb lv gv s) (hn : s.es.length ≤ 1048576) : Calls Try.prog 31 #[.pointer (some ⟨xb, 0, none⟩)] w fun e w' => ∃ v, e = .returned v ∧ OwnsO w.heap.size w' v (s.es.map (·.1)) ∧ Below w.heap.size w w' := by
  obtain ⟨p0, cap0, e0, hcap, hcm, hcc⟩ := h.row.form
  subst e0
  have HX := Lib.hid h
  have HCC := Lib.hid hcc
  clear h hcc
  obtain ⟨i0, hi, hz0, hz1, hz2⟩ := info_parts iint10
  go_enter Try.func31, Try.ntmps31
  go_wp2_with fail
  go_loopw [3, 4] (fun v3 i wr => ∃ (k : Nat) (v : Value), v = v3 ∧ k ≤ s.es.length ∧ i = .int .i64 k ∧ Hid (OwnsO w.heap.size wr v ((s.es.take k).map (·.1))) ∧ Hid (Below w.heap.size w wr)) (fun _ i _ => s.es.length - (intOf i).toNat)
  case atStart => exact ⟨0, _, rfl, by omega, rfl, Lib.hid (by simpa using OwnsO.nil _ _), Lib.hid (Below.refl _ _)⟩
  case round =>
    obtain ⟨k, v, rfl, hk, rfl, HO, HB⟩ := hrel
    obtain ⟨c0, c1, c2, c3, c4, c5, c6, hbl⟩ := (HX.out.below HB.out).cells
    clear c0 c1 c2 c4 c5 c6
    by_cases hlt : k < s.es.length
    · obtain ⟨g, rfl, d0, d1, hg⟩ := HCC.out k hlt
      have e0 := (HB.out.cell (World.block_lt_of_cell? w _ d0)).trans d0
      clear d0 d1
      have HLN : Hid (((s.es.take k).map (·.1)).length = k) := Lib.hid (by simp; omega)
      have HEX : Hid ((s.es.take k).map (·.1) ++ [s.es[k].1] = (s.es.take (k + 1)).map (·.1)) := Lib.hid (by rw [List.take_succ_eq_append_getElem hlt, List.map_append]; rfl)
      generalize s.es[k].1 = y at *
      obtain ⟨p, cp, rfl⟩ : ∃ p cp, v = .slice p k cp := by obtain ⟨p, cp, hv, _⟩ := HO.out.form; exact ⟨p, cp, by rw [hv, HLN.out]⟩
      have HC : Hid ((wr.alloc (.cells #[.int .i64 y] 3)).cell? ⟨wr.heap.size, 0, none⟩ = some (.int .i64 y)) := Lib.hid ((BlockIs.new wr [.int .i64 y] 3).cell 0)
      have HG := Lib.hid (HO.out.alloc (.cells #[.int .i64 y] 3))
      have hkk : k + 1 ≤ 1048576 := by omega
      have HSZ : Hid (w.heap.size ≤ (wr.alloc (.cells #[.int .i64 y] 3)).heap.size) := Lib.hid (by have := HB.out.size; simp; omega)
      have HLT := Lib.hid (show ∀ x, (Value.slice p k cp).ownBlock = some x → w.heap.size ≤ x from fun x e => (HO.out.lt e).1)
      have HBA : Hid (Below w.heap.size w (wr.alloc (.cells #[.int .i64 y] 3))) := Lib.hid (below_al HB.out _)
      go_wp2_with (at_builtin; refine wpList_push_off rfl _ _ 48 rfl w.heap.size i0 Try.underlying48 hi hz0 hz1 hz2 (.slice p k cp) ((s.es.take k).map (·.1)) k HLN.out rfl HG.out y ⟨wr.heap.size, 0, none⟩ 1 rfl HC.out hkk HSZ.out ?_; intro g' o' cap' w5 ho5 hg5 hn5; have HO5 := Lib.hid ho5; have HG5 := Lib.hid hg5; clear ho5 hg5 hn5)
      go_roundw
      case rel => exact ⟨k + 1, _, rfl, by omega, by go_num, Lib.hid (by rw [← HEX.out]; exact HO5.out), Lib.hid (grown_below HBA.out HG5.out HSZ.out HLT.out)⟩
      case measure => simp [intOf]; omega
    · obtain rfl : k = s.es.length := by omega
      go_wp2_with fail
      go_ret
      exact ⟨_, rfl, by rw [List.take_length] at HO; exact HO.out, HB.out⟩
end
end Go.Proofs.Ytfhcafpocmapkaa
