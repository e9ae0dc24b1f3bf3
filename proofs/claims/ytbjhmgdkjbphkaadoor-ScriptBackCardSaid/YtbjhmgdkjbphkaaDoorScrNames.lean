/- The program's names, Itoa, Join. -/
import Derived.Test.YtbjhmgdkjbphkaaDoorScrDig
import Derived.Test.YtbjhmgdkjbphkaaDoorShelf
import Derived.Lib.AppendIntMem
set_option linter.unusedVariables false
set_option linter.unusedSimpArgs false
set_option linter.unusedSectionVars false
namespace Go.Proofs.YtbjhmgdkjbphkaaDoor
open Go.RowKit
abbrev tabS (w : World) : Prop := Lib.TabIs Tryd.prog w "strings.asciiSpace" .u8 Lib.asciiSpaceTab
abbrev tabP (w : World) : Prop := Lib.TabIs Tryd.prog w "internal/strconv.uint64pow10" .u64 Lib.pow10Tab
def nameLine : ByteArray := ⟨#[111, 112, 101, 110, 32, 98, 121, 116, 101, 115, 32, 99, 108, 111, 115, 101, 32, 98, 117, 100, 103, 101, 116, 32, 116, 105, 99, 107, 32, 112, 114, 111, 98, 101, 32, 98, 97, 99, 107, 32, 115, 116, 111, 112]⟩
theorem fields_names : (Lib.fields nameLine.data.toList).map (fun l => Value.string ⟨l.toArray⟩) = names8.map Value.string := by rfl
theorem fields_len : (Lib.fields nameLine.data.toList).length = 8 := by rfl
set_option maxHeartbeats 400000 in
set_option maxRecDepth 100000 in
theorem names_any (w : World) (ht : tabS w) : Calls Tryd.prog 13 #[] w fun e w' => ∃ g, e = .returned (.slice (some ⟨g, 0, none⟩) 8 8) ∧ BlockIs w' g (names8.map Value.string) ∧ w.heap.size ≤ g ∧ Below w.heap.size w w' := by
  have h := Tryd.strings_Fields_laid nameLine w (by decide) (by
    intro j b hj
    have := List.mem_of_getElem? hj
    revert this
    generalize hL : nameLine.data.toList = L
    have hall : ∀ b ∈ nameLine.data.toList, b.toNat < 128 := by decide
    rw [hL] at hall
    exact hall b) ht
  rw [fields_len, fields_names] at h
  have H := Lib.hid h
  clear h
  go_enter Tryd.func13, Tryd.ntmps13
  go_wp2_with fail
  refine H.out.mono ?_
  rintro e w1 ⟨rfl, rfl⟩
  go_wp2_with fail
  go_ret
  exact ⟨_, rfl, BlockIs.new w (names8.map Value.string) _, Nat.le_refl _, below_al (Below.refl _ _) _⟩
theorem itoa_any (n : Int) (w : World) (h0 : -9223372036854775808 ≤ n) (h1 : n ≤ 9223372036854775807) (ht : tabP w) :
    Calls Tryd.prog 14 #[.int .i64 n] w fun e w' => e = .returned (.string ⟨(Lib.itoa n).toArray⟩) ∧ Below w.heap.size w w' := by
  refine (Tryd.strconv_Itoa n h0 h1 w ht).mono ?_
  rintro e w1 ⟨rfl, k, os, hw⟩
  exact ⟨rfl, by rw [hw]; exact Lib.below_grow _ _ (Nat.le_refl _) _ _⟩
theorem itoa_nat (n : Nat) : Lib.itoa n = Lib.decDigits n := by
  unfold Lib.itoa
  rw [if_neg (by omega)]
  simp
end Go.Proofs.YtbjhmgdkjbphkaaDoor
