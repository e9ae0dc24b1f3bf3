/- The pool's methods at a pool that nobody made. -/
import Derived.Test.YtoncjhcaeieflaaObj
namespace Go.Proofs.Ytoncjhcaeieflaa
open Go.RowKit

/-- A receiver that nobody made: nil, or one whose cell tells so. -/
def Dead (w : World) (v : Value) : Prop := v = .pointer none ∨ ∃ b, v = .pointer (some ⟨b, 0, none⟩) ∧ w.cell? ⟨b, 1, none⟩ = some (.pointer none) ∧ b < w.heap.size
theorem Dead.below {w w' : World} {v : Value} (h : Dead w v) (k : Below w.heap.size w w') : Dead w' v := by
  rcases h with h | ⟨b, h, hc, hb⟩
  · exact .inl h
  · refine .inr ⟨b, h, ?_, Nat.lt_of_lt_of_le hb k.size⟩
    rw [← hc]; exact k.cell hb
theorem Dead.alloc {w : World} {v : Value} (h : Dead w v) (o : Obj) : Dead (w.alloc o) v := h.below (below_al (Below.refl _ _) o)
set_option maxHeartbeats 400000 in
theorem none_dead (w : World) (v : Value) (h : Dead w v) : Calls Try.prog 29 #[v] w fun e w' => e = .returned (.bool true) ∧ w = w' := by
  rcases h with rfl | ⟨b, rfl, hc, hb⟩
  · go_enter Try.func29, Try.ntmps29
    go_wp2
    go_ret
    exact ⟨rfl, rfl⟩
  · go_enter Try.func29, Try.ntmps29
    go_wp2
    go_ret
    exact ⟨rfl, rfl⟩
set_option maxHeartbeats 1000000 in
set_option maxRecDepth 100000 in
theorem at_dead (n : Int) (w : World) (v : Value) (h : Dead w v) : Calls Try.prog 33 #[v, .int .i64 n] w fun e w' => e = .returned (.tuple #[.pointer none, .int .i64 7]) ∧ Below w.heap.size w w' := by
  have H := Lib.hid h
  clear h
  go_enter Try.func33, Try.ntmps33
  go_wp2_with (go_at_call 29; refine (none_dead _ _ (by first | exact H.out | exact H.out.below (by repeat (first | exact Below.refl _ _ | apply below_al | (refine Below.setCell ?_ (Nat.le_refl _) _))))).mono ?_; rintro e w0 ⟨rfl, rfl⟩)
  go_ret2
  exact ⟨rfl, by repeat (first | exact Below.refl _ _ | exact hb0 | apply below_al | apply below_then (by repeat (first | exact Below.refl _ _ | apply below_al)) hb0)⟩
set_option maxHeartbeats 1000000 in
set_option maxRecDepth 100000 in
theorem in_dead (n : Int) (s : Value) (w : World) (v : Value) (h : Dead w v) : Calls Try.prog 32 #[v, .int .i64 n, s] w fun e w' => e = .returned (.tuple #[.pointer none, .int .i64 7]) ∧ Below w.heap.size w w' := by
  have H := Lib.hid h
  clear h
  go_enter Try.func32, Try.ntmps32
  go_wp2_with (go_at_call 33; refine (at_dead n _ _ (by first | exact H.out | exact H.out.below (by repeat (first | exact Below.refl _ _ | apply below_al | (refine Below.setCell ?_ (Nat.le_refl _) _))))).mono ?_; rintro e w0 ⟨rfl, hb0⟩)
  go_ret2
  exact ⟨rfl, by repeat (first | exact Below.refl _ _ | exact hb0 | apply below_al | apply below_then (by repeat (first | exact Below.refl _ _ | apply below_al)) hb0)⟩
set_option maxHeartbeats 1000000 in
set_option maxRecDepth 100000 in
theorem opened_dead (n : Int) (w : World) (v : Value) (h : Dead w v) : Calls Try.prog 10 #[v, .int .i64 n] w fun e w' => e = .returned (.int .i64 7) ∧ Below w.heap.size w w' := by
  have H := Lib.hid h
  clear h
  go_enter Try.func10, Try.ntmps10
  go_wp2_with (go_at_call 32; refine (in_dead n _ _ _ (by first | exact H.out | exact H.out.below (by repeat (first | exact Below.refl _ _ | apply below_al | (refine Below.setCell ?_ (Nat.le_refl _) _))))).mono ?_; rintro e w0 ⟨rfl, hb0⟩)
  go_ret
  exact ⟨rfl, by repeat (first | exact Below.refl _ _ | exact hb0 | apply below_al | apply below_then (by repeat (first | exact Below.refl _ _ | apply below_al)) hb0)⟩
set_option maxHeartbeats 1000000 in
set_option maxRecDepth 100000 in
theorem failed_dead (n : Int) (w : World) (v : Value) (h : Dead w v) : Calls Try.prog 12 #[v, .int .i64 n] w fun e w' => e = .returned (.int .i64 7) ∧ Below w.heap.size w w' := by
  have H := Lib.hid h
  clear h
  go_enter Try.func12, Try.ntmps12
  go_wp2_with (go_at_call 32; refine (in_dead n _ _ _ (by first | exact H.out | exact H.out.below (by repeat (first | exact Below.refl _ _ | apply below_al | (refine Below.setCell ?_ (Nat.le_refl _) _))))).mono ?_; rintro e w0 ⟨rfl, hb0⟩)
  go_ret
  exact ⟨rfl, by repeat (first | exact Below.refl _ _ | exact hb0 | apply below_al | apply below_then (by repeat (first | exact Below.refl _ _ | apply below_al)) hb0)⟩
set_option maxHeartbeats 1000000 in
set_option maxRecDepth 100000 in
theorem drain_dead (n : Int) (w : World) (v : Value) (h : Dead w v) : Calls Try.prog 16 #[v, .int .i64 n] w fun e w' => e = .returned (.int .i64 7) ∧ Below w.heap.size w w' := by
  have H := Lib.hid h
  clear h
  go_enter Try.func16, Try.ntmps16
  go_wp2_with (go_at_call 32; refine (in_dead n _ _ _ (by first | exact H.out | exact H.out.below (by repeat (first | exact Below.refl _ _ | apply below_al | (refine Below.setCell ?_ (Nat.le_refl _) _))))).mono ?_; rintro e w0 ⟨rfl, hb0⟩)
  go_ret
  exact ⟨rfl, by repeat (first | exact Below.refl _ _ | exact hb0 | apply below_al | apply below_then (by repeat (first | exact Below.refl _ _ | apply below_al)) hb0)⟩
set_option maxHeartbeats 1000000 in
set_option maxRecDepth 100000 in
theorem take_dead (n : Int) (w : World) (v : Value) (h : Dead w v) : Calls Try.prog 15 #[v, .int .i64 n] w fun e w' => e = .returned (.int .i64 7) ∧ Below w.heap.size w w' := by
  have H := Lib.hid h
  clear h
  go_enter Try.func15, Try.ntmps15
  go_wp2_with (go_at_call 32; refine (in_dead n _ _ _ (by first | exact H.out | exact H.out.below (by repeat (first | exact Below.refl _ _ | apply below_al | (refine Below.setCell ?_ (Nat.le_refl _) _))))).mono ?_; rintro e w0 ⟨rfl, hb0⟩)
  go_ret
  exact ⟨rfl, by repeat (first | exact Below.refl _ _ | exact hb0 | apply below_al | apply below_then (by repeat (first | exact Below.refl _ _ | apply below_al)) hb0)⟩
set_option maxHeartbeats 1000000 in
set_option maxRecDepth 100000 in
theorem limit_dead (n k : Int) (w : World) (v : Value) (h : Dead w v) : Calls Try.prog 14 #[v, .int .i64 n, .int .i64 k] w fun e w' => e = .returned (.int .i64 7) ∧ Below w.heap.size w w' := by
  have H := Lib.hid h
  clear h
  go_enter Try.func14, Try.ntmps14
  go_wp2_with (go_at_call 32; refine (in_dead n _ _ _ (by first | exact H.out | exact H.out.below (by repeat (first | exact Below.refl _ _ | apply below_al | (refine Below.setCell ?_ (Nat.le_refl _) _))))).mono ?_; rintro e w0 ⟨rfl, hb0⟩)
  go_ret
  exact ⟨rfl, by repeat (first | exact Below.refl _ _ | exact hb0 | apply below_al | apply below_then (by repeat (first | exact Below.refl _ _ | apply below_al)) hb0)⟩
set_option maxHeartbeats 1000000 in
set_option maxRecDepth 100000 in
theorem put_dead (n : Int) (w : World) (v : Value) (h : Dead w v) : Calls Try.prog 18 #[v, .int .i64 n] w fun e w' => e = .returned (.int .i64 7) ∧ Below w.heap.size w w' := by
  have H := Lib.hid h
  clear h
  go_enter Try.func18, Try.ntmps18
  go_wp2_with (go_at_call 33; refine (at_dead n _ _ (by first | exact H.out | exact H.out.below (by repeat (first | exact Below.refl _ _ | apply below_al | (refine Below.setCell ?_ (Nat.le_refl _) _))))).mono ?_; rintro e w0 ⟨rfl, hb0⟩)
  go_ret
  exact ⟨rfl, by repeat (first | exact Below.refl _ _ | exact hb0 | apply below_al | apply below_then (by repeat (first | exact Below.refl _ _ | apply below_al)) hb0)⟩
set_option maxHeartbeats 1000000 in
set_option maxRecDepth 100000 in
theorem probe_dead (n : Int) (g : Bool) (w : World) (v : Value) (h : Dead w v) : Calls Try.prog 19 #[v, .int .i64 n, .bool g] w fun e w' => e = .returned (.int .i64 7) ∧ Below w.heap.size w w' := by
  have H := Lib.hid h
  clear h
  go_enter Try.func19, Try.ntmps19
  go_wp2_with (go_at_call 33; refine (at_dead n _ _ (by first | exact H.out | exact H.out.below (by repeat (first | exact Below.refl _ _ | apply below_al | (refine Below.setCell ?_ (Nat.le_refl _) _))))).mono ?_; rintro e w0 ⟨rfl, hb0⟩)
  go_ret
  exact ⟨rfl, by repeat (first | exact Below.refl _ _ | exact hb0 | apply below_al | apply below_then (by repeat (first | exact Below.refl _ _ | apply below_al)) hb0)⟩
set_option maxHeartbeats 1000000 in
set_option maxRecDepth 100000 in
theorem state_dead (n : Int) (w : World) (v : Value) (h : Dead w v) : Calls Try.prog 17 #[v, .int .i64 n] w fun e w' => e = .returned (.int .i64 (-1)) ∧ Below w.heap.size w w' := by
  have H := Lib.hid h
  clear h
  go_enter Try.func17, Try.ntmps17
  go_wp2_with (go_at_call 33; refine (at_dead n _ _ (by first | exact H.out | exact H.out.below (by repeat (first | exact Below.refl _ _ | apply below_al | (refine Below.setCell ?_ (Nat.le_refl _) _))))).mono ?_; rintro e w0 ⟨rfl, hb0⟩)
  go_ret
  exact ⟨rfl, by repeat (first | exact Below.refl _ _ | exact hb0 | apply below_al | apply below_then (by repeat (first | exact Below.refl _ _ | apply below_al)) hb0)⟩
set_option maxHeartbeats 1000000 in
set_option maxRecDepth 100000 in
theorem wait_dead (n : Int) (w : World) (v : Value) (h : Dead w v) : Calls Try.prog 11 #[v, .int .i64 n] w fun e w' => e = .returned (.int .i64 0) ∧ Below w.heap.size w w' := by
  have H := Lib.hid h
  clear h
  go_enter Try.func11, Try.ntmps11
  go_wp2_with (go_at_call 33; refine (at_dead n _ _ (by first | exact H.out | exact H.out.below (by repeat (first | exact Below.refl _ _ | apply below_al | (refine Below.setCell ?_ (Nat.le_refl _) _))))).mono ?_; rintro e w0 ⟨rfl, hb0⟩)
  go_ret
  exact ⟨rfl, by repeat (first | exact Below.refl _ _ | exact hb0 | apply below_al | apply below_then (by repeat (first | exact Below.refl _ _ | apply below_al)) hb0)⟩
set_option maxHeartbeats 1000000 in
set_option maxRecDepth 100000 in
theorem tick_dead (w : World) (v : Value) (h : Dead w v) : Calls Try.prog 9 #[v] w fun e w' => e = .returned (.slice none 0 0) ∧ Below w.heap.size w w' := by
  have H := Lib.hid h
  clear h
  go_enter Try.func9, Try.ntmps9
  go_wp2_with (go_at_call 29; refine (none_dead _ _ (by first | exact H.out | exact H.out.below (by repeat (first | exact Below.refl _ _ | apply below_al | (refine Below.setCell ?_ (Nat.le_refl _) _))))).mono ?_; rintro e w0 ⟨rfl, rfl⟩)
  go_ret
  exact ⟨rfl, by repeat (first | exact Below.refl _ _ | exact hb0 | apply below_al | apply below_then (by repeat (first | exact Below.refl _ _ | apply below_al)) hb0)⟩
set_option maxHeartbeats 1000000 in
set_option maxRecDepth 100000 in
theorem backs_dead (w : World) (v : Value) (h : Dead w v) : Calls Try.prog 20 #[v] w fun e w' => e = .returned (.slice none 0 0) ∧ Below w.heap.size w w' := by
  have H := Lib.hid h
  clear h
  go_enter Try.func20, Try.ntmps20
  go_wp2_with (go_at_call 29; refine (none_dead _ _ (by first | exact H.out | exact H.out.below (by repeat (first | exact Below.refl _ _ | apply below_al | (refine Below.setCell ?_ (Nat.le_refl _) _))))).mono ?_; rintro e w0 ⟨rfl, rfl⟩)
  go_ret
  exact ⟨rfl, by repeat (first | exact Below.refl _ _ | exact hb0 | apply below_al | apply below_then (by repeat (first | exact Below.refl _ _ | apply below_al)) hb0)⟩
end Go.Proofs.Ytoncjhcaeieflaa
