/- The wheel's methods at a wheel that nobody made. -/
import Derived.Test.YtpgddndacgipeaaObj
namespace Go.Proofs.Ytpgddndacgipeaa
open Go.RowKit

/-- A receiver that nobody made: nil, or one whose cell tells so. -/
def Dead (w : World) (v : Value) : Prop := v = .pointer none ∨ ∃ b, v = .pointer (some ⟨b, 0, none⟩) ∧ w.cell? ⟨b, 0, none⟩ = some (.bool false) ∧ b < w.heap.size
theorem Dead.below {w w' : World} {v : Value} (h : Dead w v) (k : Below w.heap.size w w') : Dead w' v := by
  rcases h with h | ⟨b, h, hc, hb⟩
  · exact .inl h
  · refine .inr ⟨b, h, ?_, Nat.lt_of_lt_of_le hb k.size⟩
    rw [← hc]; exact k.cell hb
theorem Dead.alloc {w : World} {v : Value} (h : Dead w v) (o : Obj) : Dead (w.alloc o) v := h.below (below_al (Below.refl _ _) o)
set_option maxHeartbeats 400000 in
theorem none_dead (w : World) (v : Value) (h : Dead w v) : Calls Try.prog 23 #[v] w fun e w' => e = .returned (.bool true) ∧ w = w' := by
  rcases h with rfl | ⟨b, rfl, hc, hb⟩
  · go_enter Try.func23, Try.ntmps23
    go_wp2
    go_ret
    exact ⟨rfl, rfl⟩
  · go_enter Try.func23, Try.ntmps23
    go_wp2
    go_ret
    exact ⟨rfl, rfl⟩
set_option maxHeartbeats 1000000 in
set_option maxRecDepth 100000 in
theorem left_dead (id : Int) (w : World) (v : Value) (h : Dead w v) : Calls Try.prog 16 #[v, .int .i64 id] w fun e w' => e = .returned (.tuple #[.int .i64 0, .int .i64 7]) ∧ Below w.heap.size w w' := by
  have H := Lib.hid h
  clear h
  go_enter Try.func16, Try.ntmps16
  go_wp2_with (go_at_call 23; refine (none_dead _ _ (by first | exact H.out | exact H.out.below (by repeat (first | exact Below.refl _ _ | apply below_al | (refine Below.setCell ?_ (Nat.le_refl _) _))))).mono ?_; rintro e w0 ⟨rfl, rfl⟩)
  go_ret2
  exact ⟨rfl, by repeat (first | exact Below.refl _ _ | exact hb0 | apply below_al | apply below_then (by repeat (first | exact Below.refl _ _ | apply below_al)) hb0)⟩
set_option maxHeartbeats 1000000 in
set_option maxRecDepth 100000 in
theorem set_dead (id n : Int) (w : World) (v : Value) (h : Dead w v) : Calls Try.prog 9 #[v, .int .i64 id, .int .i64 n] w fun e w' => e = .returned (.int .i64 7) ∧ Below w.heap.size w w' := by
  have H := Lib.hid h
  clear h
  go_enter Try.func9, Try.ntmps9
  go_wp2_with (go_at_call 23; refine (none_dead _ _ (by first | exact H.out | exact H.out.below (by repeat (first | exact Below.refl _ _ | apply below_al | (refine Below.setCell ?_ (Nat.le_refl _) _))))).mono ?_; rintro e w0 ⟨rfl, rfl⟩)
  go_ret
  exact ⟨rfl, by repeat (first | exact Below.refl _ _ | exact hb0 | apply below_al | apply below_then (by repeat (first | exact Below.refl _ _ | apply below_al)) hb0)⟩
set_option maxHeartbeats 1000000 in
set_option maxRecDepth 100000 in
theorem cancel_dead (id : Int) (w : World) (v : Value) (h : Dead w v) : Calls Try.prog 14 #[v, .int .i64 id] w fun e w' => e = .returned (.int .i64 7) ∧ Below w.heap.size w w' := by
  have H := Lib.hid h
  clear h
  go_enter Try.func14, Try.ntmps14
  go_wp2_with (go_at_call 23; refine (none_dead _ _ (by first | exact H.out | exact H.out.below (by repeat (first | exact Below.refl _ _ | apply below_al | (refine Below.setCell ?_ (Nat.le_refl _) _))))).mono ?_; rintro e w0 ⟨rfl, rfl⟩)
  go_ret
  exact ⟨rfl, by repeat (first | exact Below.refl _ _ | exact hb0 | apply below_al | apply below_then (by repeat (first | exact Below.refl _ _ | apply below_al)) hb0)⟩
set_option maxHeartbeats 1000000 in
set_option maxRecDepth 100000 in
theorem tick_dead (w : World) (v : Value) (h : Dead w v) : Calls Try.prog 13 #[v] w fun e w' => e = .returned (.slice none 0 0) ∧ Below w.heap.size w w' := by
  have H := Lib.hid h
  clear h
  go_enter Try.func13, Try.ntmps13
  go_wp2_with (go_at_call 23; refine (none_dead _ _ (by first | exact H.out | exact H.out.below (by repeat (first | exact Below.refl _ _ | apply below_al | (refine Below.setCell ?_ (Nat.le_refl _) _))))).mono ?_; rintro e w0 ⟨rfl, rfl⟩)
  go_ret
  exact ⟨rfl, by repeat (first | exact Below.refl _ _ | exact hb0 | apply below_al | apply below_then (by repeat (first | exact Below.refl _ _ | apply below_al)) hb0)⟩
set_option maxHeartbeats 1000000 in
set_option maxRecDepth 100000 in
theorem now_dead (w : World) (v : Value) (h : Dead w v) : Calls Try.prog 17 #[v] w fun e w' => e = .returned (.int .i64 0) ∧ Below w.heap.size w w' := by
  have H := Lib.hid h
  clear h
  go_enter Try.func17, Try.ntmps17
  go_wp2_with (go_at_call 23; refine (none_dead _ _ (by first | exact H.out | exact H.out.below (by repeat (first | exact Below.refl _ _ | apply below_al | (refine Below.setCell ?_ (Nat.le_refl _) _))))).mono ?_; rintro e w0 ⟨rfl, rfl⟩)
  go_ret
  exact ⟨rfl, by repeat (first | exact Below.refl _ _ | exact hb0 | apply below_al | apply below_then (by repeat (first | exact Below.refl _ _ | apply below_al)) hb0)⟩
set_option maxHeartbeats 1000000 in
set_option maxRecDepth 100000 in
theorem len_dead (w : World) (v : Value) (h : Dead w v) : Calls Try.prog 10 #[v] w fun e w' => e = .returned (.int .i64 0) ∧ Below w.heap.size w w' := by
  have H := Lib.hid h
  clear h
  go_enter Try.func10, Try.ntmps10
  go_wp2_with (go_at_call 23; refine (none_dead _ _ (by first | exact H.out | exact H.out.below (by repeat (first | exact Below.refl _ _ | apply below_al | (refine Below.setCell ?_ (Nat.le_refl _) _))))).mono ?_; rintro e w0 ⟨rfl, rfl⟩)
  go_ret
  exact ⟨rfl, by repeat (first | exact Below.refl _ _ | exact hb0 | apply below_al | apply below_then (by repeat (first | exact Below.refl _ _ | apply below_al)) hb0)⟩
end Go.Proofs.Ytpgddndacgipeaa
