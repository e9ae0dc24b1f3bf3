/- conn.New: which setups may be; what a new connection is. -/
import Derived.Test.YtbekmflfmmcffaaGreatSetGrC
import Derived.Test.YtbekmflfmmcffaaGreatSetGrS
set_option linter.unusedVariables false
set_option linter.unusedSimpArgs false
set_option linter.unusedSectionVars false
namespace Go.Proofs.YtbekmflfmmcffaaGreat
open Go.RowKit
theorem within_ok {a b n : Int} (h : a ≤ n ∧ n ≤ b) (w : World) : Calls Tryz.prog 10 #[.int .i64 n, .int .i64 a, .int .i64 b] w fun e w' => e = .returned (.bool true) ∧ w' = w :=
  (within_any a b n w).mono (by rintro e w' ⟨rfl, rfl⟩; exact ⟨by rw [decide_eq_true h], rfl⟩)
theorem within_no {a b n : Int} (h : ¬ (a ≤ n ∧ n ≤ b)) (w : World) : Calls Tryz.prog 10 #[.int .i64 n, .int .i64 a, .int .i64 b] w fun e w' => e = .returned (.bool false) ∧ w' = w :=
  (within_any a b n w).mono (by rintro e w' ⟨rfl, rfl⟩; exact ⟨by rw [decide_eq_false h], rfl⟩)
/-- Setups that may be. -/
def MayS (a b f li t q : Int) : Prop := (0 ≤ a ∧ a ≤ 1024) ∧ (0 ≤ b ∧ b ≤ 2147483647) ∧ (16384 ≤ f ∧ f ≤ 16777215) ∧ (0 ≤ li ∧ li ≤ 2147483647) ∧ (0 ≤ t ∧ t ≤ 65536) ∧ (0 ≤ q ∧ q ≤ 1048576)
def setupV (srv : Bool) (a b f li t q : Int) : Value := .agg #[.bool srv, .int .i64 a, .int .i64 b, .int .i64 f, .int .i64 li, .int .i64 t, .int .i64 q]
set_option maxHeartbeats 4000000 in
set_option maxRecDepth 100000 in
theorem newbad_any (srv : Bool) (a b f li t q : Int) (hn : ¬ MayS a b f li t q) (w : World) :
    Calls Tryz.prog 4 #[setupV srv a b f li t q] w fun e w' => e = .returned (.tuple #[.pointer none, .int .i64 1]) ∧ Below w.heap.size w w' := by
  unfold setupV
  have HN := Lib.hid hn
  clear hn
  go_enter Tryz.func4, Tryz.ntmps4
  by_cases h1 : 0 ≤ a ∧ a ≤ 1024
  · have H1 := Lib.hid h1
    clear h1
    by_cases h2 : 0 ≤ b ∧ b ≤ 2147483647
    · have H2 := Lib.hid h2
      clear h2
      by_cases h3 : 16384 ≤ f ∧ f ≤ 16777215
      · have H3 := Lib.hid h3
        clear h3
        by_cases h4 : 0 ≤ li ∧ li ≤ 2147483647
        · have H4 := Lib.hid h4
          clear h4
          by_cases h5 : 0 ≤ t ∧ t ≤ 65536
          · have H5 := Lib.hid h5
            clear h5
            by_cases h6 : 0 ≤ q ∧ q ≤ 1048576
            · exact absurd ⟨H1.out, H2.out, H3.out, H4.out, H5.out, h6⟩ HN.out
            · have H6 := Lib.hid h6
              clear h6
              go_wp2_with fail
              refine (within_ok H1.out _).mono ?_
              rintro e w1 ⟨rfl, rfl⟩
              go_wp2_with fail
              refine (within_ok H2.out _).mono ?_
              rintro e w1 ⟨rfl, rfl⟩
              go_wp2_with fail
              refine (within_ok H3.out _).mono ?_
              rintro e w1 ⟨rfl, rfl⟩
              go_wp2_with fail
              refine (within_ok H4.out _).mono ?_
              rintro e w1 ⟨rfl, rfl⟩
              go_wp2_with fail
              refine (within_ok H5.out _).mono ?_
              rintro e w1 ⟨rfl, rfl⟩
              go_wp2_with fail
              refine (within_no H6.out _).mono ?_
              rintro e w1 ⟨rfl, rfl⟩
              go_wp2_with fail
              go_ret2
              exact ⟨rfl, below_al (Below.refl _ _) _⟩
          · have H5 := Lib.hid h5
            clear h5
            go_wp2_with fail
            refine (within_ok H1.out _).mono ?_
            rintro e w1 ⟨rfl, rfl⟩
            go_wp2_with fail
            refine (within_ok H2.out _).mono ?_
            rintro e w1 ⟨rfl, rfl⟩
            go_wp2_with fail
            refine (within_ok H3.out _).mono ?_
            rintro e w1 ⟨rfl, rfl⟩
            go_wp2_with fail
            refine (within_ok H4.out _).mono ?_
            rintro e w1 ⟨rfl, rfl⟩
            go_wp2_with fail
            refine (within_no H5.out _).mono ?_
            rintro e w1 ⟨rfl, rfl⟩
            go_wp2_with fail
            go_ret2
            exact ⟨rfl, below_al (Below.refl _ _) _⟩
        · have H4 := Lib.hid h4
          clear h4
          go_wp2_with fail
          refine (within_ok H1.out _).mono ?_
          rintro e w1 ⟨rfl, rfl⟩
          go_wp2_with fail
          refine (within_ok H2.out _).mono ?_
          rintro e w1 ⟨rfl, rfl⟩
          go_wp2_with fail
          refine (within_ok H3.out _).mono ?_
          rintro e w1 ⟨rfl, rfl⟩
          go_wp2_with fail
          refine (within_no H4.out _).mono ?_
          rintro e w1 ⟨rfl, rfl⟩
          go_wp2_with fail
          go_ret2
          exact ⟨rfl, below_al (Below.refl _ _) _⟩
      · have H3 := Lib.hid h3
        clear h3
        go_wp2_with fail
        refine (within_ok H1.out _).mono ?_
        rintro e w1 ⟨rfl, rfl⟩
        go_wp2_with fail
        refine (within_ok H2.out _).mono ?_
        rintro e w1 ⟨rfl, rfl⟩
        go_wp2_with fail
        refine (within_no H3.out _).mono ?_
        rintro e w1 ⟨rfl, rfl⟩
        go_wp2_with fail
        go_ret2
        exact ⟨rfl, below_al (Below.refl _ _) _⟩
    · have H2 := Lib.hid h2
      clear h2
      go_wp2_with fail
      refine (within_ok H1.out _).mono ?_
      rintro e w1 ⟨rfl, rfl⟩
      go_wp2_with fail
      refine (within_no H2.out _).mono ?_
      rintro e w1 ⟨rfl, rfl⟩
      go_wp2_with fail
      go_ret2
      exact ⟨rfl, below_al (Below.refl _ _) _⟩
  · have H1 := Lib.hid h1
    clear h1
    go_wp2_with fail
    refine (within_no H1.out _).mono ?_
    rintro e w1 ⟨rfl, rfl⟩
    go_wp2_with fail
    go_ret2
    exact ⟨rfl, below_al (Below.refl _ _) _⟩
end Go.Proofs.YtbekmflfmmcffaaGreat
