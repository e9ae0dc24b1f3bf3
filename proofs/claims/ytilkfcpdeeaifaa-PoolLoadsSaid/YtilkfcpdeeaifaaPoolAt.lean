/- The pool's none, at and in. -/
import Derived.Test.YtilkfcpdeeaifaaPoolSpec
set_option linter.unusedVariables false
set_option linter.unusedSimpArgs false
set_option linter.unusedSectionVars false
namespace Go.Proofs.Ytilkfcpdeeaifaa
open Go.RowKit Go.Sort
def PS.get (s : PS) (n : Int) : Option Bk := if n < 0 then none else s.bs[n.toNat]?
theorem PS.get_cases (s : PS) (n : Int) : (s.get n = none ∧ (n < 0 ∨ (s.bs.length : Int) ≤ n)) ∨ ∃ (i : Nat) (hi : i < s.bs.length), n = (i : Int) ∧ s.get n = some s.bs[i] := by
  unfold PS.get
  by_cases h : n < 0
  · rw [if_pos h]; exact .inl ⟨rfl, .inl h⟩
  · rw [if_neg h]
    by_cases h2 : n.toNat < s.bs.length
    · exact .inr ⟨n.toNat, h2, by omega, by simp [h2]⟩
    · exact .inl ⟨by simp; omega, .inr (by omega)⟩
/-- What in answers. -/
def inV (g : Nat) (i : Nat) (st : Int) (ss : List Int) : Value := if ss.contains st = true then .tuple #[.pointer (some ⟨g, i * 5, none⟩), .int .i64 0] else .tuple #[.pointer none, .int .i64 5]
section
variable {base : Nat} {w : World} {pb wb wm : Nat} {gl : List Nat} {sv : Nat → Value} {v : Value} {s : PS}
set_option maxHeartbeats 400000 in
theorem pnone_any (h : PoolAt base w pb wb wm gl sv v s) : Calls Try.prog 27 #[.pointer (some ⟨pb, 0, none⟩)] w fun e w' => e = .returned (.bool false) ∧ w = w' := by
  have c1 : w.cell? ⟨pb, 1, none⟩ = some (.pointer (some ⟨wb, 0, none⟩)) := h.blk.cell 1
  clear h
  go_enter Try.func27, Try.ntmps27
  go_wp2_with fail
  go_ret
  exact ⟨rfl, rfl⟩
theorem PoolAt.len (h : PoolAt base w pb wb wm gl sv v s) : ∃ A cap, v = .slice A s.bs.length cap := by
  rcases h.row with ⟨_, e, e2⟩ | ⟨g, cap, sp, _, e, _⟩
  · rw [e2]; exact ⟨none, 0, e⟩
  · exact ⟨_, _, e⟩
set_option maxHeartbeats 1000000 in
set_option maxRecDepth 100000 in
theorem pat_out (h : PoolAt base w pb wb wm gl sv v s) {n : Int} (hn : n < 0 ∨ (s.bs.length : Int) ≤ n) : Calls Try.prog 31 #[.pointer (some ⟨pb, 0, none⟩), .int .i64 n] w fun e w' => e = .returned (.tuple #[.pointer none, .int .i64 1]) ∧ w = w' := by
  have HN := Lib.hid (pnone_any h)
  obtain ⟨A, cap, hv⟩ := h.len
  subst hv
  have c0 : w.cell? ⟨pb, 0, none⟩ = some (.slice A s.bs.length cap) := h.blk.cell 0
  have hbl := h.blk.lt
  clear h
  generalize s.bs.length = N at *
  by_cases h0 : n < 0
  · go_enter Try.func31, Try.ntmps31
    go_wp2_with fail
    refine HN.out.mono ?_
    rintro e w1 ⟨rfl, rfl⟩
    go_wp2_with fail
    go_ret2
    exact ⟨rfl, rfl⟩
  · have h1 : (N : Int) ≤ n := by omega
    clear hn
    go_enter Try.func31, Try.ntmps31
    go_wp2_with fail
    refine HN.out.mono ?_
    rintro e w1 ⟨rfl, rfl⟩
    go_wp2_with fail
    go_ret2
    exact ⟨rfl, rfl⟩
set_option maxHeartbeats 1000000 in
set_option maxRecDepth 100000 in
theorem pat_in {g cap : Nat} (h : PoolAt base w pb wb wm gl sv v s) {i : Nat} (hi : i < s.bs.length) (hv : v = .slice (some ⟨g, 0, none⟩) s.bs.length cap) : Calls Try.prog 31 #[.pointer (some ⟨pb, 0, none⟩), .int .i64 i] w fun e w' => e = .returned (.tuple #[.pointer (some ⟨g, i * 5, none⟩), .int .i64 0]) ∧ w = w' := by
  have HN := Lib.hid (pnone_any h)
  subst hv
  have c0 : w.cell? ⟨pb, 0, none⟩ = some (.slice (some ⟨g, 0, none⟩) s.bs.length cap) := h.blk.cell 0
  have hbl := h.blk.lt
  clear h
  generalize s.bs.length = N at *
  go_enter Try.func31, Try.ntmps31
  go_wp2_with fail
  refine HN.out.mono ?_
  rintro e w1 ⟨rfl, rfl⟩
  go_wp2_with fail
  go_ret2
  exact ⟨rfl, rfl⟩
set_option maxHeartbeats 1000000 in
set_option maxRecDepth 100000 in
theorem pin_out (h : PoolAt base w pb wb wm gl sv v s) {n : Int} (hn : n < 0 ∨ (s.bs.length : Int) ≤ n) (sl : Value) : Calls Try.prog 30 #[.pointer (some ⟨pb, 0, none⟩), .int .i64 n, sl] w fun e w' => e = .returned (.tuple #[.pointer none, .int .i64 1]) ∧ w = w' := by
  have HN := Lib.hid (pat_out h hn)
  clear h hn
  go_enter Try.func30, Try.ntmps30
  go_wp2_with fail
  refine HN.out.mono ?_
  rintro e w1 ⟨rfl, rfl⟩
  go_wp2_with fail
  go_ret2
  exact ⟨rfl, rfl⟩
set_option maxHeartbeats 1000000 in
set_option maxRecDepth 100000 in
theorem pin_in {g cap : Nat} (h : PoolAt base w pb wb wm gl sv v s) {i : Nat} (hi : i < s.bs.length) (hv : v = .slice (some ⟨g, 0, none⟩) s.bs.length cap) {st : Int} (hc : w.cell? ⟨g, i * 5 + 1, none⟩ = some (.int .i64 st))
    {sb c : Nat} {ss : List Int} (hs : BlockIs w sb (ss.map (Value.int .i64))) (hl : ss.length ≤ 1000) : Calls Try.prog 30 #[.pointer (some ⟨pb, 0, none⟩), .int .i64 i, .slice (some ⟨sb, 0, none⟩) ss.length c] w fun e w' => e = .returned (inV g i st ss) ∧ w = w' := by
  have HN := Lib.hid (pat_in h hi hv)
  have HS := Lib.hid hs
  clear h hi hv hs
  go_enter Try.func30, Try.ntmps30
  go_wp2_with fail
  refine HN.out.mono ?_
  rintro e w1 ⟨rfl, rfl⟩
  go_wp2_with fail
  go_loopw [23] (fun k wr => ∃ j : Nat, j ≤ ss.length ∧ k = .int .i64 j ∧ Hid (∀ m (hm : m < ss.length), m < j → ss[m] ≠ st) ∧ wr = w) (fun k _ => ss.length - (intOf k).toNat)
  case atStart => exact ⟨0, by omega, rfl, Lib.hid (fun m _ h => absurd h (Nat.not_lt_zero _)), rfl⟩
  case round =>
    obtain ⟨j, hj, rfl, HJ, rfl⟩ := hrel
    by_cases hlt : j < ss.length
    · have d0 : wr.cell? ⟨sb, j, none⟩ = some (.int .i64 ss[j]) := (HS.out.cell j).trans (by simp [hlt])
      generalize hx : ss[j] = x at *
      have HX := Lib.hid hx
      clear hx
      by_cases he : st = x
      · subst he
        go_wp2_with fail
        go_ret2
        refine ⟨?_, rfl⟩
        have : ss.contains st = true := by rw [List.contains_iff_mem]; exact HX.out ▸ List.getElem_mem hlt
        rw [inV, if_pos this]; rfl
      · go_wp2_with fail
        go_roundw
        case rel =>
          refine ⟨j + 1, by omega, by go_num, Lib.hid (fun m hm h => ?_), by trivial⟩
          by_cases e : m = j
          · subst e; rw [HX.out]; exact fun e => he e.symm
          · exact HJ.out m hm (by omega)
        case measure => simp [intOf]; omega
    · obtain rfl : j = ss.length := by omega
      go_wp2_with fail
      go_ret2
      refine ⟨?_, rfl⟩
      have : ¬ ss.contains st = true := by
        rw [List.contains_iff_mem]
        intro hm
        obtain ⟨m, hm, e⟩ := List.getElem_of_mem hm
        exact HJ.out m hm hm e
      rw [inV, if_neg this]; rfl
end
end Go.Proofs.Ytilkfcpdeeaifaa
