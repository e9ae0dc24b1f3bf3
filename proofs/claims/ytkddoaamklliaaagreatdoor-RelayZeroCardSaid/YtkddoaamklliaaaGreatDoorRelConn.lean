/- A connection that nobody made, and a pair of such. -/
import Derived.Test.YtkddoaamklliaaaGreatDoorObj
namespace Go.Proofs.YtkddoaamklliaaaGreatDoor.C
open Go.RowKit

/-- A receiver that nobody made: nil, or one whose cell tells so. -/
def Dead (w : World) (v : Value) : Prop := v = .pointer none ∨ ∃ b, v = .pointer (some ⟨b, 0, none⟩) ∧ w.cell? ⟨b, 8, none⟩ = some (.pointer none) ∧ b < w.heap.size
theorem Dead.below {w w' : World} {v : Value} (h : Dead w v) (k : Below w.heap.size w w') : Dead w' v := by
  rcases h with h | ⟨b, h, hc, hb⟩
  · exact .inl h
  · refine .inr ⟨b, h, ?_, Nat.lt_of_lt_of_le hb k.size⟩
    rw [← hc]; exact k.cell hb
theorem Dead.alloc {w : World} {v : Value} (h : Dead w v) (o : Obj) : Dead (w.alloc o) v := h.below (below_al (Below.refl _ _) o)
set_option maxHeartbeats 400000 in
theorem none_dead (w : World) (v : Value) (h : Dead w v) : Calls Tryz.prog 37 #[v] w fun e w' => e = .returned (.bool true) ∧ w = w' := by
  rcases h with rfl | ⟨b, rfl, hc, hb⟩
  · go_enter Tryz.func37, Tryz.ntmps37
    go_wp2
    go_ret
    exact ⟨rfl, rfl⟩
  · go_enter Tryz.func37, Tryz.ntmps37
    go_wp2
    go_ret
    exact ⟨rfl, rfl⟩
set_option maxHeartbeats 1000000 in
set_option maxRecDepth 100000 in
theorem reset_dead (i k : Int) (w : World) (v : Value) (h : Dead w v) : Calls Tryz.prog 33 #[v, .int .i64 i, .int .i64 k] w fun e w' => e = .returned (.int .i64 7) ∧ Below w.heap.size w w' := by
  have H := Lib.hid h
  clear h
  go_enter Tryz.func33, Tryz.ntmps33
  go_wp2_with (go_at_call 37; refine (none_dead _ _ (by first | exact H.out | exact H.out.below (by repeat (first | exact Below.refl _ _ | apply below_al | (refine Below.setCell ?_ (Nat.le_refl _) _))))).mono ?_; rintro e w0 ⟨rfl, rfl⟩)
  go_ret
  exact ⟨rfl, by repeat (first | exact Below.refl _ _ | exact hb0 | apply below_al | apply below_then (by repeat (first | exact Below.refl _ _ | apply below_al)) hb0)⟩
set_option maxHeartbeats 1000000 in
set_option maxRecDepth 100000 in
theorem unmade_dead (w : World) (v : Value) (h : Dead w v) : Calls Tryz.prog 14 #[v] w fun e w' => e = .returned (.bool true) ∧ Below w.heap.size w w' := by
  have H := Lib.hid h
  clear h
  go_enter Tryz.func14, Tryz.ntmps14
  go_wp2_with (go_at_call 33; refine (reset_dead _ _ _ _ (by first | exact H.out | exact H.out.below (by repeat (first | exact Below.refl _ _ | apply below_al | (refine Below.setCell ?_ (Nat.le_refl _) _))))).mono ?_; rintro e w0 ⟨rfl, hb0⟩)
  go_ret
  exact ⟨rfl, by repeat (first | exact Below.refl _ _ | exact hb0 | apply below_al | apply below_then (by repeat (first | exact Below.refl _ _ | apply below_al)) hb0)⟩
set_option maxHeartbeats 1000000 in
set_option maxRecDepth 100000 in
theorem new_dead (a b n : Int) (v2 : Value) (w : World) (v : Value) (h : Dead w v) : Calls Tryz.prog 5 #[v, .int .i64 a, v2, .int .i64 b, .int .i64 n] w fun e w' => e = .returned (.tuple #[.pointer none, .int .i64 7]) ∧ Below w.heap.size w w' := by
  have H := Lib.hid h
  clear h
  go_enter Tryz.func5, Tryz.ntmps5
  go_wp2_with (go_at_call 14; refine (unmade_dead _ _ (by first | exact H.out | exact H.out.below (by repeat (first | exact Below.refl _ _ | apply below_al | (refine Below.setCell ?_ (Nat.le_refl _) _))))).mono ?_; rintro e w0 ⟨rfl, hb0⟩)
  go_ret2
  exact ⟨rfl, by repeat (first | exact Below.refl _ _ | exact hb0 | apply below_al | apply below_then (by repeat (first | exact Below.refl _ _ | apply below_al)) hb0)⟩
end Go.Proofs.YtkddoaamklliaaaGreatDoor.C
