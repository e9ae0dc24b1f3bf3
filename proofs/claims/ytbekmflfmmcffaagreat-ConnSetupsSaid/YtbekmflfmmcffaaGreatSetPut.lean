/- Numbers as bytes: field.Put32, Put16, Put24, frame.four: each gives a slice of just so many bytes. -/
import Derived.Test.YtbekmflfmmcffaaGreatSetApp
import Derived.Test.YtbekmflfmmcffaaGreatInts
set_option linter.unusedVariables false
set_option linter.unusedSimpArgs false
set_option linter.unusedSectionVars false
namespace Go.Proofs.YtbekmflfmmcffaaGreat
open Go.RowKit
/-- The answer is a new slice of m bytes. -/
def NewB (m : Nat) (w : World) (v : Value) (w' : World) : Prop := ∃ g o c news, v = .slice (some ⟨g, o, none⟩) m c ∧ c ≤ m ∧ Src w.heap.size 1 w' (some ⟨g, o, none⟩) m news ∧ Below w.heap.size w w'
set_option maxHeartbeats 1000000 in
set_option maxRecDepth 100000 in
theorem put32_any (n : Int) (w : World) : Calls Tryz.prog 60 #[.int .u32 n] w fun e w' => ∃ a b c d : Int, e = .returned (.slice (some ⟨w.heap.size, 0, none⟩) 4 4) ∧ BlockIs w' w.heap.size [.int .u8 a, .int .u8 b, .int .u8 c, .int .u8 d] ∧ w'.heap.size = w.heap.size + 1 ∧ Below w.heap.size w w' := by
  go_enter Tryz.func60, Tryz.ntmps60
  go_wp2_with fail
  go_ret
  exact ⟨_, _, _, _, rfl, BlockIs.new w [.int .u8 _, .int .u8 _, .int .u8 _, .int .u8 _] _, by simp, by repeat (first | exact Below.refl _ _ | apply below_al)⟩
theorem src_block {w w' : World} {g : Nat} {cs : List Value} (h : BlockIs w' g cs) (hg : w.heap.size ≤ g) (h1 : ∀ u ∈ cs, u.oneCell' = true) (k : Nat) : Src w.heap.size 1 w' (some ⟨g, k, none⟩) (cs.drop k).length (cs.drop k) :=
  ⟨by simp, fun u hu => h1 u (List.mem_of_mem_drop hu), fun _ => ⟨_, rfl, hg, h.lt, fun j u hu => by
    rw [add_none, h.cell]
    rw [List.getElem?_drop] at hu
    exact hu⟩⟩
set_option maxHeartbeats 1000000 in
set_option maxRecDepth 100000 in
theorem put2_any (n : Int) (w : World) (h0 : 0 ≤ n) (h1 : n < 65536) : Calls Tryz.prog 101 #[.int .i64 n, .int .i64 2, .int .i64 16] w fun e w' => ∃ v, e = .returned (.tuple #[v, .int .i64 0]) ∧ NewB 2 w v w' := by
  go_enter Tryz.func101, Tryz.ntmps101
  have hd : n / 65536 = 0 := by omega
  go_wp2_with fail
  refine (put32_any n _).mono ?_
  rintro e w1 ⟨a, b, c, d, rfl, hx, hsz, hb⟩
  have HX := Lib.hid hx
  have HB := Lib.hid hb
  clear hx hb
  go_wp2_with fail
  go_ret2
  refine ⟨_, rfl, w.heap.size, _, _, [.int .u8 a, .int .u8 b, .int .u8 c, .int .u8 d].drop 2, rfl, by decide, ?_, HB.out⟩
  exact src_block HX.out (Nat.le_refl _) (by intro u hu; simp at hu; rcases hu with rfl | rfl | rfl | rfl <;> rfl) 2
set_option maxHeartbeats 1000000 in
set_option maxRecDepth 100000 in
theorem put3_any (n : Int) (w : World) (h0 : 0 ≤ n) (h1 : n < 16777216) : Calls Tryz.prog 101 #[.int .i64 n, .int .i64 3, .int .i64 24] w fun e w' => ∃ v, e = .returned (.tuple #[v, .int .i64 0]) ∧ NewB 3 w v w' := by
  go_enter Tryz.func101, Tryz.ntmps101
  have hd : n / 16777216 = 0 := by omega
  go_wp2_with fail
  refine (put32_any n _).mono ?_
  rintro e w1 ⟨a, b, c, d, rfl, hx, hsz, hb⟩
  have HX := Lib.hid hx
  have HB := Lib.hid hb
  clear hx hb
  go_wp2_with fail
  go_ret2
  refine ⟨_, rfl, w.heap.size, _, _, [.int .u8 a, .int .u8 b, .int .u8 c, .int .u8 d].drop 1, rfl, by decide, ?_, HB.out⟩
  exact src_block HX.out (Nat.le_refl _) (by intro u hu; simp at hu; rcases hu with rfl | rfl | rfl | rfl <;> rfl) 1
theorem put16_any (n : Int) (w : World) (h0 : 0 ≤ n) (h1 : n < 65536) : Calls Tryz.prog 110 #[.int .i64 n] w fun e w' => ∃ v, e = .returned (.tuple #[v, .int .i64 0]) ∧ NewB 2 w v w' := by
  go_enter Tryz.func110, Tryz.ntmps110
  go_wp2_with fail
  refine (put2_any n _ h0 h1).mono ?_
  rintro e w1 ⟨v, rfl, hb⟩
  have HB := Lib.hid hb
  clear hb
  go_wp2_with fail
  go_ret2
  exact ⟨_, rfl, HB.out⟩
theorem put24_any (n : Int) (w : World) (h0 : 0 ≤ n) (h1 : n < 16777216) : Calls Tryz.prog 61 #[.int .i64 n] w fun e w' => ∃ v, e = .returned (.tuple #[v, .int .i64 0]) ∧ NewB 3 w v w' := by
  go_enter Tryz.func61, Tryz.ntmps61
  go_wp2_with fail
  refine (put3_any n _ h0 h1).mono ?_
  rintro e w1 ⟨v, rfl, hb⟩
  have HB := Lib.hid hb
  clear hb
  go_wp2_with fail
  go_ret2
  exact ⟨_, rfl, HB.out⟩
theorem put32N_any (n : Int) (w : World) : Calls Tryz.prog 60 #[.int .u32 n] w fun e w' => ∃ v, e = .returned v ∧ NewB 4 w v w' := by
  refine (put32_any n w).mono ?_
  rintro e w' ⟨a, b, c, d, rfl, hx, hs, hb⟩
  exact ⟨_, rfl, w.heap.size, 0, 4, _, rfl, by decide, src_block hx (Nat.le_refl _) (by intro u hu; simp at hu; rcases hu with rfl | rfl | rfl | rfl <;> rfl) 0, hb⟩
theorem four_any (w : World) : Calls Tryz.prog 62 #[.int .i64 0] w fun e w' => ∃ v, e = .returned v ∧ NewB 4 w v w' := by
  go_enter Tryz.func62, Tryz.ntmps62
  go_wp2_with fail
  refine (put32N_any 0 _).mono ?_
  rintro e w1 ⟨v, rfl, hb⟩
  have HB := Lib.hid hb
  clear hb
  go_wp2_with fail
  go_ret
  exact ⟨_, rfl, HB.out⟩
end Go.Proofs.YtbekmflfmmcffaaGreat
