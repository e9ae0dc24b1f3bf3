/- The pair's methods at a pair that nobody made. -/
import Derived.Test.YtkddoaamklliaaaGreatDoorObj
namespace Go.Proofs.YtkddoaamklliaaaGreatDoor
open Go.RowKit

/-- A receiver that nobody made: nil, or one whose cell tells so. -/
def Dead (w : World) (v : Value) : Prop := v = .pointer none ∨ ∃ b, v = .pointer (some ⟨b, 0, none⟩) ∧ w.cell? ⟨b, 0, none⟩ = some (.pointer none) ∧ b < w.heap.size
theorem Dead.below {w w' : World} {v : Value} (h : Dead w v) (k : Below w.heap.size w w') : Dead w' v := by
  rcases h with h | ⟨b, h, hc, hb⟩
  · exact .inl h
  · refine .inr ⟨b, h, ?_, Nat.lt_of_lt_of_le hb k.size⟩
    rw [← hc]; exact k.cell hb
theorem Dead.alloc {w : World} {v : Value} (h : Dead w v) (o : Obj) : Dead (w.alloc o) v := h.below (below_al (Below.refl _ _) o)
set_option maxHeartbeats 400000 in
theorem none_dead (w : World) (v : Value) (h : Dead w v) : Calls Tryz.prog 13 #[v] w fun e w' => e = .returned (.bool true) ∧ w = w' := by
  rcases h with rfl | ⟨b, rfl, hc, hb⟩
  · go_enter Tryz.func13, Tryz.ntmps13
    go_wp2
    go_ret
    exact ⟨rfl, rfl⟩
  · go_enter Tryz.func13, Tryz.ntmps13
    go_wp2
    go_ret
    exact ⟨rfl, rfl⟩
set_option maxHeartbeats 1000000 in
set_option maxRecDepth 100000 in
theorem over_dead (w : World) (v : Value) (h : Dead w v) : Calls Tryz.prog 10 #[v] w fun e w' => e = .returned (.bool false) ∧ Below w.heap.size w w' := by
  have H := Lib.hid h
  clear h
  go_enter Tryz.func10, Tryz.ntmps10
  go_wp2_with (go_at_call 13; refine (none_dead _ _ (by first | exact H.out | exact H.out.below (by repeat (first | exact Below.refl _ _ | apply below_al | (refine Below.setCell ?_ (Nat.le_refl _) _))))).mono ?_; rintro e w0 ⟨rfl, rfl⟩)
  go_ret
  exact ⟨rfl, by repeat (first | exact Below.refl _ _ | exact hb0 | apply below_al | apply below_then (by repeat (first | exact Below.refl _ _ | apply below_al)) hb0)⟩
set_option maxHeartbeats 1000000 in
set_option maxRecDepth 100000 in
theorem asked_dead (f x : Value) (w : World) (v : Value) (h : Dead w v) : Calls Tryz.prog 23 #[v, f, x] w fun e w' => e = .returned (.int .i64 7) ∧ Below w.heap.size w w' := by
  have H := Lib.hid h
  clear h
  go_enter Tryz.func23, Tryz.ntmps23
  go_wp2_with (go_at_call 13; refine (none_dead _ _ (by first | exact H.out | exact H.out.below (by repeat (first | exact Below.refl _ _ | apply below_al | (refine Below.setCell ?_ (Nat.le_refl _) _))))).mono ?_; rintro e w0 ⟨rfl, rfl⟩)
  go_ret
  exact ⟨rfl, by repeat (first | exact Below.refl _ _ | exact hb0 | apply below_al | apply below_then (by repeat (first | exact Below.refl _ _ | apply below_al)) hb0)⟩
set_option maxHeartbeats 1000000 in
set_option maxRecDepth 100000 in
theorem front_dead (c0 c1 c2 c3 c4 c5 c6 : Value) (w : World) (v : Value) (h : Dead w v) : Calls Tryz.prog 6 #[v, .agg #[c0, c1, c2, c3, c4, c5, c6]] w fun e w' => e = .returned (.int .i64 7) ∧ Below w.heap.size w w' := by
  have H := Lib.hid h
  clear h
  go_enter Tryz.func6, Tryz.ntmps6
  go_wp2_with (go_at_call 23; refine (asked_dead _ _ _ _ (by first | exact H.out | exact H.out.below (by repeat (first | exact Below.refl _ _ | apply below_al | (refine Below.setCell ?_ (Nat.le_refl _) _))))).mono ?_; rintro e w0 ⟨rfl, hb0⟩)
  go_ret
  exact ⟨rfl, by repeat (first | exact Below.refl _ _ | exact hb0 | apply below_al | apply below_then (by repeat (first | exact Below.refl _ _ | apply below_al)) hb0)⟩
set_option maxHeartbeats 1000000 in
set_option maxRecDepth 100000 in
theorem back_dead (c0 c1 c2 c3 c4 c5 c6 : Value) (w : World) (v : Value) (h : Dead w v) : Calls Tryz.prog 7 #[v, .agg #[c0, c1, c2, c3, c4, c5, c6]] w fun e w' => e = .returned (.int .i64 7) ∧ Below w.heap.size w w' := by
  have H := Lib.hid h
  clear h
  go_enter Tryz.func7, Tryz.ntmps7
  go_wp2_with (go_at_call 23; refine (asked_dead _ _ _ _ (by first | exact H.out | exact H.out.below (by repeat (first | exact Below.refl _ _ | apply below_al | (refine Below.setCell ?_ (Nat.le_refl _) _))))).mono ?_; rintro e w0 ⟨rfl, hb0⟩)
  go_ret
  exact ⟨rfl, by repeat (first | exact Below.refl _ _ | exact hb0 | apply below_al | apply below_then (by repeat (first | exact Below.refl _ _ | apply below_al)) hb0)⟩
set_option maxHeartbeats 1000000 in
set_option maxRecDepth 100000 in
theorem move_dead (w : World) (v : Value) (h : Dead w v) : Calls Tryz.prog 9 #[v] w fun e w' => e = .returned (.int .i64 0) ∧ Below w.heap.size w w' := by
  have H := Lib.hid h
  clear h
  go_enter Tryz.func9, Tryz.ntmps9
  go_wp2_with (go_at_call 13; refine (none_dead _ _ (by first | exact H.out | exact H.out.below (by repeat (first | exact Below.refl _ _ | apply below_al | (refine Below.setCell ?_ (Nat.le_refl _) _))))).mono ?_; rintro e w0 ⟨rfl, rfl⟩)
  go_ret
  exact ⟨rfl, by repeat (first | exact Below.refl _ _ | exact hb0 | apply below_al | apply below_then (by repeat (first | exact Below.refl _ _ | apply below_al)) hb0)⟩
set_option maxHeartbeats 1000000 in
set_option maxRecDepth 100000 in
theorem lost_dead (b : Bool) (w : World) (v : Value) (h : Dead w v) : Calls Tryz.prog 8 #[v, .bool b] w fun e w' => e = .returned (.int .i64 7) ∧ Below w.heap.size w w' := by
  have H := Lib.hid h
  clear h
  go_enter Tryz.func8, Tryz.ntmps8
  go_wp2_with (go_at_call 13; refine (none_dead _ _ (by first | exact H.out | exact H.out.below (by repeat (first | exact Below.refl _ _ | apply below_al | (refine Below.setCell ?_ (Nat.le_refl _) _))))).mono ?_; rintro e w0 ⟨rfl, rfl⟩)
  go_ret
  exact ⟨rfl, by repeat (first | exact Below.refl _ _ | exact hb0 | apply below_al | apply below_then (by repeat (first | exact Below.refl _ _ | apply below_al)) hb0)⟩
set_option maxHeartbeats 1000000 in
set_option maxRecDepth 100000 in
theorem passed_dead (w : World) (v : Value) (h : Dead w v) : Calls Tryz.prog 11 #[v] w fun e w' => e = .returned (.bool false) ∧ Below w.heap.size w w' := by
  have H := Lib.hid h
  clear h
  go_enter Tryz.func11, Tryz.ntmps11
  go_wp2_with (go_at_call 13; refine (none_dead _ _ (by first | exact H.out | exact H.out.below (by repeat (first | exact Below.refl _ _ | apply below_al | (refine Below.setCell ?_ (Nat.le_refl _) _))))).mono ?_; rintro e w0 ⟨rfl, rfl⟩)
  go_ret
  exact ⟨rfl, by repeat (first | exact Below.refl _ _ | exact hb0 | apply below_al | apply below_then (by repeat (first | exact Below.refl _ _ | apply below_al)) hb0)⟩
set_option maxHeartbeats 1000000 in
set_option maxRecDepth 100000 in
theorem held_dead (w : World) (v : Value) (h : Dead w v) : Calls Tryz.prog 12 #[v] w fun e w' => e = .returned (.int .i64 0) ∧ Below w.heap.size w w' := by
  have H := Lib.hid h
  clear h
  go_enter Tryz.func12, Tryz.ntmps12
  go_wp2_with (go_at_call 13; refine (none_dead _ _ (by first | exact H.out | exact H.out.below (by repeat (first | exact Below.refl _ _ | apply below_al | (refine Below.setCell ?_ (Nat.le_refl _) _))))).mono ?_; rintro e w0 ⟨rfl, rfl⟩)
  go_ret
  exact ⟨rfl, by repeat (first | exact Below.refl _ _ | exact hb0 | apply below_al | apply below_then (by repeat (first | exact Below.refl _ _ | apply below_al)) hb0)⟩
set_option maxHeartbeats 1000000 in
set_option maxRecDepth 100000 in
theorem streams_dead (w : World) (v : Value) (h : Dead w v) : Calls Tryz.prog 4 #[v] w fun e w' => e = .returned (.tuple #[.int .i64 0, .int .i64 0]) ∧ Below w.heap.size w w' := by
  have H := Lib.hid h
  clear h
  go_enter Tryz.func4, Tryz.ntmps4
  go_wp2_with (go_at_call 13; refine (none_dead _ _ (by first | exact H.out | exact H.out.below (by repeat (first | exact Below.refl _ _ | apply below_al | (refine Below.setCell ?_ (Nat.le_refl _) _))))).mono ?_; rintro e w0 ⟨rfl, rfl⟩)
  go_ret2
  exact ⟨rfl, by repeat (first | exact Below.refl _ _ | exact hb0 | apply below_al | apply below_then (by repeat (first | exact Below.refl _ _ | apply below_al)) hb0)⟩
end Go.Proofs.YtkddoaamklliaaaGreatDoor
