/- The law WheelZero: a wheel that nobody made answers nothing. -/
import Derived.Test.YtpgddndacgipeaaWhlZero
import Derived.Test.YtpgddndacgipeaaZero
namespace Go.Proofs.Ytpgddndacgipeaa
open Go.RowKit
def zerowheelZero_walk : Array Value := #[.bool false, .int .i64 0, .int .i64 0] ++ Array.replicate 64 (.slice none 0 0) ++ #[.map none]
theorem zerowheelZero_walkv : ∀ w, Sem.run Try.prog (zeroValue 46) w = .ok (.agg zerowheelZero_walk) w := zero_of (by kernel_rfl)
set_option maxHeartbeats 4000000 in
set_option maxRecDepth 100000 in
theorem wheelZero_walk (id n : Int) (w : World) (_h : (Lit.int .i64 id).wf = true) (_h2 : (Lit.int .i64 n).wf = true) :
    Calls Try.prog 6 #[.int .i64 id, .int .i64 n] w fun e w' => e = .returned (.bool true) ∧ Below w.heap.size w w' := by
  have hzv := zerowheelZero_walkv
  go_enter Try.func6, Try.ntmps6
  go_wp2_with fail
  have D : Dead (w.alloc (.cells zerowheelZero_walk 46)) (.pointer (some ⟨w.heap.size, 0, none⟩)) := .inr ⟨_, rfl, ((BlockIs.new w zerowheelZero_walk.toList _).cell 0).trans rfl, (BlockIs.new w zerowheelZero_walk.toList _).lt⟩
  have D := Lib.hid D
  have B := Lib.hid (below_al (Below.refl w.heap.size w) (.cells zerowheelZero_walk 46))
  refine (left_dead id _ _ (.inl rfl)).mono ?_
  rintro e wx ⟨rfl, hb⟩
  have D := Lib.hid (D.out.below hb)
  have B := Lib.hid (below_then B.out hb)
  clear hb
  go_wp2_with fail
  refine (set_dead id n _ _ D.out).mono ?_
  rintro e wx ⟨rfl, hb⟩
  have D := Lib.hid (D.out.below hb)
  have B := Lib.hid (below_then B.out hb)
  clear hb
  go_wp2_with fail
  refine (cancel_dead id _ _ (.inl rfl)).mono ?_
  rintro e wx ⟨rfl, hb⟩
  have D := Lib.hid (D.out.below hb)
  have B := Lib.hid (below_then B.out hb)
  clear hb
  go_wp2_with fail
  refine (tick_dead _ _ D.out).mono ?_
  rintro e wx ⟨rfl, hb⟩
  have D := Lib.hid (D.out.below hb)
  have B := Lib.hid (below_then B.out hb)
  clear hb
  go_wp2_with fail
  refine (now_dead _ _ (.inl rfl)).mono ?_
  rintro e wx ⟨rfl, hb⟩
  have D := Lib.hid (D.out.below hb)
  have B := Lib.hid (below_then B.out hb)
  clear hb
  go_wp2_with fail
  refine (len_dead _ _ D.out).mono ?_
  rintro e wx ⟨rfl, hb⟩
  have D := Lib.hid (D.out.below hb)
  have B := Lib.hid (below_then B.out hb)
  clear hb
  go_wp2_with fail
  go_ret
  exact ⟨rfl, B.out⟩
end Go.Proofs.Ytpgddndacgipeaa
