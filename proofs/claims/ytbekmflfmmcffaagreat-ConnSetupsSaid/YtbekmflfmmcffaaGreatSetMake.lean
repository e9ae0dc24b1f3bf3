/- The makers that a connection calls: each makes something, where its numbers may be. -/
import Derived.Test.YtbekmflfmmcffaaGreatMaps
import Derived.Test.YtbekmflfmmcffaaGreatObj
set_option linter.unusedVariables false
set_option linter.unusedSimpArgs false
set_option linter.unusedSectionVars false
namespace Go.Proofs.YtbekmflfmmcffaaGreat
open Go.RowKit
def MadeP (w : World) (e : Ending) (w' : World) : Prop := (∃ b, e = .returned (.tuple #[.pointer (some ⟨b, 0, none⟩), .int .i64 0])) ∧ Below w.heap.size w w'
theorem rdnew_any (n : Int) (w : World) (h0 : 16384 ≤ n) (h1 : n ≤ 16777215) : Calls Tryz.prog 12 #[.int .i64 n] w (MadeP w) := by
  go_enter Tryz.func12, Tryz.ntmps12
  go_wp2_with fail
  go_ret2
  exact ⟨⟨_, rfl⟩, by repeat (first | exact Below.refl _ _ | apply below_al)⟩
theorem blnew_any (w : World) : Calls Tryz.prog 13 #[.int .i64 65536] w (MadeP w) := by
  go_enter Tryz.func13, Tryz.ntmps13
  go_wp2_with fail
  go_ret2
  exact ⟨⟨_, rfl⟩, by repeat (first | exact Below.refl _ _ | apply below_al)⟩
theorem tbnew_any (n : Int) (w : World) (h0 : 0 ≤ n) (h1 : n ≤ 65536) : Calls Tryz.prog 31 #[.int .i64 n] w (MadeP w) := by
  have hm : ∀ w, Calls Tryz.prog 46 #[.int .i64 n] w fun e w' => e = .returned (.bool true) ∧ w' = w := by
    intro w
    go_enter Tryz.func46, Tryz.ntmps46
    go_wp2_with fail
    go_ret
    exact ⟨by first | rfl | (simp; omega), rfl⟩
  have HM := Lib.hid hm
  clear hm
  go_enter Tryz.func31, Tryz.ntmps31
  go_wp2_with fail
  refine (HM.out _).mono ?_
  rintro e w1 ⟨rfl, rfl⟩
  go_wp2_with fail
  go_ret2
  exact ⟨⟨_, rfl⟩, by repeat (first | exact Below.refl _ _ | apply below_al)⟩
theorem denew_any (n k : Int) (w : World) (h0 : 0 ≤ n) (h1 : n ≤ 65536) (h2 : 0 ≤ k) : Calls Tryz.prog 14 #[.int .i64 n, .int .i64 k] w (MadeP w) := by
  go_enter Tryz.func14, Tryz.ntmps14
  go_wp2_with fail
  refine (tbnew_any n _ h0 h1).mono ?_
  rintro e w1 ⟨⟨b, rfl⟩, hb⟩
  have HB := Lib.hid hb
  clear hb
  go_wp2_with fail
  go_ret2
  exact ⟨⟨_, rfl⟩, by repeat (first | exact HB.out | apply below_al)⟩
theorem ennew_any (w : World) : Calls Tryz.prog 15 #[.int .i64 4096] w (MadeP w) := by
  go_enter Tryz.func15, Tryz.ntmps15
  go_wp2_with fail
  refine (tbnew_any 4096 _ (by decide) (by decide)).mono ?_
  rintro e w1 ⟨⟨b, rfl⟩, hb⟩
  have HB := Lib.hid hb
  clear hb
  go_wp2_with fail
  go_ret2
  exact ⟨⟨_, rfl⟩, by repeat (first | exact HB.out | apply below_al)⟩
set_option maxHeartbeats 1000000 in
set_option maxRecDepth 100000 in
theorem stnew_any (server : Bool) (n : Int) (w : World) (h0 : 0 ≤ n) (h1 : n ≤ 1024) : Calls Tryz.prog 16 #[.bool server, .int .i64 n] w (MadeP w) := by
  have hmm := @run_makeMap Tryz.prog
  go_enter Tryz.func16, Tryz.ntmps16
  go_wp2_with fail
  go_ret2
  exact ⟨⟨_, rfl⟩, by repeat (first | exact Below.refl _ _ | apply below_al)⟩
set_option maxHeartbeats 1000000 in
set_option maxRecDepth 100000 in
theorem btw_any (g : Nat) (n : Int) (w : World) (hg : BlockIs w g [.int .i64 n]) (h0 : 0 ≤ n) (h1 : n ≤ 2147483647) : Calls Tryz.prog 32 #[.int .i64 0, .int .i64 2147483647, .slice (some ⟨g, 0, none⟩) 1 1] w fun e w' => e = .returned (.bool true) ∧ Below w.heap.size w w' := by
  have HG := Lib.hid hg
  clear hg
  go_enter Tryz.func32, Tryz.ntmps32
  go_wp2_with fail
  go_loopw [11] (fun i wr => ∃ k : Nat, k ≤ 1 ∧ i = .int .i64 k ∧ Hid (Below w.heap.size w wr)) (fun i _ => 1 - (intOf i).toNat)
  case atStart => exact ⟨0, by omega, rfl, Lib.hid (Below.refl _ _)⟩
  case round =>
    obtain ⟨k, hk, rfl, HB⟩ := hrel
    by_cases hlt : k < 1
    · obtain rfl : k = 0 := by omega
      have y0 := (HG.out.of_same (HB.out.block g HG.out.lt)).cell 0
      have yl := (HG.out.of_same (HB.out.block g HG.out.lt)).lt
      simp only [List.getElem?_cons_zero] at y0
      go_wp2_with fail
      go_roundw
      case rel => exact ⟨1, by omega, by go_num, HB⟩
      case measure => simp [intOf]
    · obtain rfl : k = 1 := by omega
      go_wp2_with fail
      go_ret
      exact ⟨rfl, HB.out⟩
set_option maxHeartbeats 1000000 in
set_option maxRecDepth 100000 in
theorem winew_any (w : World) : Calls Tryz.prog 17 #[.int .i64 65535] w (MadeP w) := by
  go_enter Tryz.func17, Tryz.ntmps17
  go_wp2_with fail
  refine (btw_any _ 65535 _ (BlockIs.new w [.int .i64 65535] _) (by decide) (by decide)).mono ?_
  rintro e w1 ⟨rfl, hb⟩
  have HB : Hid (Below w.heap.size w w1) := Lib.hid ((below_al (Below.refl _ _) _).trans (hb.mono (by simp)))
  clear hb
  go_wp2_with fail
  go_ret2
  exact ⟨⟨_, rfl⟩, by repeat (first | exact HB.out | apply below_al)⟩
set_option maxHeartbeats 1000000 in
set_option maxRecDepth 100000 in
theorem crnew_any (w : World) : Calls Tryz.prog 18 #[.int .i64 65535] w (MadeP w) := by
  go_enter Tryz.func18, Tryz.ntmps18
  go_wp2_with fail
  refine (btw_any _ 65535 _ (BlockIs.new w [.int .i64 65535] _) (by decide) (by decide)).mono ?_
  rintro e w1 ⟨rfl, hb⟩
  have HB : Hid (Below w.heap.size w w1) := Lib.hid ((below_al (Below.refl _ _) _).trans (hb.mono (by simp)))
  clear hb
  go_wp2_with fail
  go_ret2
  exact ⟨⟨_, rfl⟩, by repeat (first | exact HB.out | apply below_al)⟩
set_option maxRecDepth 100000 in
theorem within_any (a b n : Int) (w : World) : Calls Tryz.prog 10 #[.int .i64 n, .int .i64 a, .int .i64 b] w fun e w' => e = .returned (.bool (decide (a ≤ n ∧ n ≤ b))) ∧ w' = w := by
  by_cases h1 : a ≤ n
  · by_cases h2 : n ≤ b
    · go_enter Tryz.func10, Tryz.ntmps10
      go_wp2_with fail
      go_ret
      exact ⟨bool_eq (by simp [h1, h2]), rfl⟩
    · go_enter Tryz.func10, Tryz.ntmps10
      go_wp2_with fail
      go_ret
      exact ⟨bool_eq (by simp [h1, h2]), rfl⟩
  · go_enter Tryz.func10, Tryz.ntmps10
    go_wp2_with fail
    go_ret
    exact ⟨bool_eq (by rw [decide_eq_false (show ¬ a ≤ n by omega)]; rfl), rfl⟩
end Go.Proofs.YtbekmflfmmcffaaGreat
