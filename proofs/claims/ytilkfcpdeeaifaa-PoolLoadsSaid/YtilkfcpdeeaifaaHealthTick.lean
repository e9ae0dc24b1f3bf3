/- The walks of the health model's none and Tick. -/
import Derived.Test.YtilkfcpdeeaifaaPoolDo2
set_option linter.unusedVariables false
set_option linter.unusedSimpArgs false
set_option linter.unusedSectionVars false
namespace Go.Proofs.Ytilkfcpdeeaifaa
open Go.RowKit Go.Sort
set_option maxHeartbeats 400000 in
theorem hnone_any {w : World} {mb : Nat} {md : Md} (h : BlockIs w mb (mdC md)) (hf : md.fail ≠ 0) : Calls Try.prog 52 #[.pointer (some ⟨mb, 0, none⟩)] w fun e w' => e = .returned (.bool false) ∧ w = w' := by
  have c0 : w.cell? ⟨mb, 0, none⟩ = some (.int .i64 md.fail) := h.cell 0
  clear h
  go_enter Try.func52, Try.ntmps52
  have hf2 : (md.fail == 0) = false := by simpa using hf
  go_wp2_with fail
  go_ret
  exact ⟨rfl, rfl⟩
set_option maxHeartbeats 1000000 in
theorem htick_any {w : World} {mb : Nat} {md : Md} (h : BlockIs w mb (mdC md)) (hf : md.fail ≠ 0) (hd : 0 ≤ md.hd ∧ md.hd ≤ 1073741824) : Calls Try.prog 28 #[.pointer (some ⟨mb, 0, none⟩)] w fun e w' => e = .returned (.int .i64 0) ∧ BlockIs w' mb (mdC md.tick) ∧ Keeps (fun x => x = mb) w w' := by
  have HN := Lib.hid (hnone_any h hf)
  have c5 : w.cell? ⟨mb, 5, none⟩ = some (.int .i64 md.hd) := h.cell 5
  have hfr := h.free 5
  have hbl := h.lt
  have HB := Lib.hid h
  obtain ⟨hd0, hd1⟩ := hd
  clear h hf
  go_enter Try.func28, Try.ntmps28
  go_wp2_with fail
  refine HN.out.mono ?_
  rintro e w1 ⟨rfl, rfl⟩
  go_wp2_with fail
  go_ret
  refine ⟨rfl, ?_, (Keeps.refl (fun x => x = mb) _).set1 rfl _ _⟩
  have := HB.out.set 5 (.int .i64 (max 0 (md.hd - 1)))
  exact this
end Go.Proofs.Ytilkfcpdeeaifaa
