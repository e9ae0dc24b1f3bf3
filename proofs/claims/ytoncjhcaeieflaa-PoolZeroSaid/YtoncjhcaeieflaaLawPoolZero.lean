/- The law PoolZero: a pool that nobody made answers nothing. -/
import Derived.Test.YtoncjhcaeieflaaPoolZero
import Derived.Test.YtoncjhcaeieflaaZero
namespace Go.Proofs.Ytoncjhcaeieflaa
open Go.RowKit
def zeropoolZero_walk : Array Value := #[.slice none 0 0, .pointer none, .int .i64 0, .int .i64 0]
theorem zeropoolZero_walkv : ∀ w, Sem.run Try.prog (zeroValue 39) w = .ok (.agg zeropoolZero_walk) w := zero_of (by kernel_rfl)
set_option maxHeartbeats 4000000 in
set_option maxRecDepth 100000 in
theorem poolZero_walk (n : Int) (w : World) (_h : (Lit.int .i64 n).wf = true) :
    Calls Try.prog 5 #[.int .i64 n] w fun e w' => e = .returned (.bool true) ∧ Below w.heap.size w w' := by
  have hzv := zeropoolZero_walkv
  go_enter Try.func5, Try.ntmps5
  go_wp2_with fail
  have D : Dead (w.alloc (.cells zeropoolZero_walk 39)) (.pointer (some ⟨w.heap.size, 0, none⟩)) := .inr ⟨_, rfl, ((BlockIs.new w zeropoolZero_walk.toList _).cell 1).trans rfl, (BlockIs.new w zeropoolZero_walk.toList _).lt⟩
  have D := Lib.hid D
  have B := Lib.hid (below_al (Below.refl w.heap.size w) (.cells zeropoolZero_walk 39))
  refine (tick_dead _ _ (.inl rfl)).mono ?_
  rintro e wx ⟨rfl, hb⟩
  have D := Lib.hid (D.out.below hb)
  have B := Lib.hid (below_then B.out hb)
  clear hb
  go_wp2_with fail
  refine (opened_dead n _ _ D.out).mono ?_
  rintro e wx ⟨rfl, hb⟩
  have D := Lib.hid (D.out.below hb)
  have B := Lib.hid (below_then B.out hb)
  clear hb
  go_wp2_with fail
  refine (failed_dead n _ _ (.inl rfl)).mono ?_
  rintro e wx ⟨rfl, hb⟩
  have D := Lib.hid (D.out.below hb)
  have B := Lib.hid (below_then B.out hb)
  clear hb
  go_wp2_with fail
  refine (drain_dead n _ _ D.out).mono ?_
  rintro e wx ⟨rfl, hb⟩
  have D := Lib.hid (D.out.below hb)
  have B := Lib.hid (below_then B.out hb)
  clear hb
  go_wp2_with fail
  refine (limit_dead n n _ _ (.inl rfl)).mono ?_
  rintro e wx ⟨rfl, hb⟩
  have D := Lib.hid (D.out.below hb)
  have B := Lib.hid (below_then B.out hb)
  clear hb
  go_wp2_with fail
  refine (take_dead n _ _ D.out).mono ?_
  rintro e wx ⟨rfl, hb⟩
  have D := Lib.hid (D.out.below hb)
  have B := Lib.hid (below_then B.out hb)
  clear hb
  go_wp2_with fail
  refine (put_dead n _ _ (.inl rfl)).mono ?_
  rintro e wx ⟨rfl, hb⟩
  have D := Lib.hid (D.out.below hb)
  have B := Lib.hid (below_then B.out hb)
  clear hb
  go_wp2_with fail
  refine (probe_dead n true _ _ D.out).mono ?_
  rintro e wx ⟨rfl, hb⟩
  have D := Lib.hid (D.out.below hb)
  have B := Lib.hid (below_then B.out hb)
  clear hb
  go_wp2_with fail
  refine (backs_dead _ _ (.inl rfl)).mono ?_
  rintro e wx ⟨rfl, hb⟩
  have D := Lib.hid (D.out.below hb)
  have B := Lib.hid (below_then B.out hb)
  clear hb
  go_wp2_with fail
  refine (state_dead n _ _ D.out).mono ?_
  rintro e wx ⟨rfl, hb⟩
  have D := Lib.hid (D.out.below hb)
  have B := Lib.hid (below_then B.out hb)
  clear hb
  go_wp2_with fail
  refine (wait_dead n _ _ (.inl rfl)).mono ?_
  rintro e wx ⟨rfl, hb⟩
  have D := Lib.hid (D.out.below hb)
  have B := Lib.hid (below_then B.out hb)
  clear hb
  go_wp2_with fail
  go_ret
  exact ⟨rfl, B.out⟩
end Go.Proofs.Ytoncjhcaeieflaa
