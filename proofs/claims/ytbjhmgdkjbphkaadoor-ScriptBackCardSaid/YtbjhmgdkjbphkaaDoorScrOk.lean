/- The tokens' ok, and the law's same. -/
import Derived.Test.YtbjhmgdkjbphkaaDoorScrCut
import Derived.Test.YtbjhmgdkjbphkaaDoorScrRPrint
set_option linter.unusedVariables false
set_option linter.unusedSimpArgs false
set_option linter.unusedSectionVars false
namespace Go.Proofs.YtbjhmgdkjbphkaaDoor
open Go.RowKit
set_option maxHeartbeats 400000 in
theorem number_ok (n : Int) (b : Bool) (w : World) : Calls Tryd.prog 107 #[.agg #[.int .i64 n, .bool b]] w fun e w' => e = .returned (.bool b) ∧ Below w.heap.size w w' := by
  go_enter Tryd.func107, Tryd.ntmps107
  go_wp2_with fail
  go_ret
  exact ⟨rfl, by repeat (first | exact Below.refl _ _ | apply below_al)⟩
set_option maxHeartbeats 400000 in
theorem data_ok (p : Option Addr) (n cp : Nat) (b : Bool) (w : World) : Calls Tryd.prog 106 #[.agg #[.slice p n cp, .bool b]] w fun e w' => e = .returned (.bool b) ∧ Below w.heap.size w w' := by
  go_enter Tryd.func106, Tryd.ntmps106
  go_wp2_with fail
  go_ret
  exact ⟨rfl, by repeat (first | exact Below.refl _ _ | apply below_al)⟩
/-- A slice of bytes that came in, as a string. -/
theorem conv_in (w : World) (A : Option Addr) (cap : Nat) (l : List Int) (hl : BytesAt w A l) (hw : ∀ y ∈ l, (Lit.int .u8 y).wf = true) : (convert 22 9 (.slice A l.length cap)).run Tryd.prog w = .ok (.string ⟨(l.map u8of).toArray⟩) w := by
  by_cases h0 : l = []
  · subst h0
    show (convert 22 9 (.slice A 0 cap)).run Tryd.prog w = _
    rw [run_convert_bytes_string w 22 9 5 A 0 cap Tryd.underlying22 Tryd.underlying5 Tryd.underlying9]
    cases A <;> rfl
  · have hpos := List.length_pos_iff.2 h0
    obtain ⟨g, o, rfl, _, _⟩ := hl.get 0 hpos
    have := run_convert_bytes_back w 22 9 5 ⟨g, o, none⟩ cap (l.map u8of) Tryd.underlying22 Tryd.underlying5 Tryd.underlying9 (fun j hj => by
      have hj2 : j < l.length := by simpa using hj
      obtain ⟨g2, o2, e2, hc, _⟩ := hl.get j hj2
      injection e2 with e3; injection e3 with e4 e5
      subst e4; subst e5
      obtain ⟨h1, h2⟩ := bounds_u8 (hw l[j] (List.getElem_mem hj2))
      rw [show ((⟨g, o, none⟩ : Addr).add j) = ⟨g, o + j, none⟩ by unfold Addr.add; split <;> simp_all, hc]
      obtain ⟨x, hx⟩ := Int.eq_ofNat_of_zero_le h1
      rw [hx] at h2
      have := u8of_nat x (by omega)
      simp only [List.getElem_map, hx, this])
    rw [List.length_map] at this
    exact this
set_option maxHeartbeats 1000000 in
set_option maxRecDepth 100000 in
theorem same23_any (what a b d : Int) (A : Option Addr) (cap : Nat) (l : List Int) (p : Option Addr) (n cp base : Nat) (w : World) (hl : BytesAt w A l) (hw : ∀ y ∈ l, (Lit.int .u8 y).wf = true) (ho : OwnsU base w (.slice p n cp) (l.map u8of)) :
    Calls Tryd.prog 12 #[.agg #[.int .i64 what, .int .i64 a, .int .i64 b, .int .i64 d, .slice A l.length cap], .agg #[.int .i64 what, .int .i64 a, .int .i64 b, .int .i64 d, .slice p n cp]] w fun e w' => e = .returned (.bool true) ∧ Below w.heap.size w w' := by
  have C1 := Lib.hid (fun w' (hb : Below w.heap.size w w') => conv_in w' A cap l (hl.below hb) hw)
  have C2 := Lib.hid (fun w' (hb : Below w.heap.size w w') => conv_own (OwnsU.below ho hb))
  clear hl hw ho
  generalize (⟨(l.map u8of).toArray⟩ : ByteArray) = S at *
  go_enter Tryd.func12, Tryd.ntmps12
  have hb1 : Below w.heap.size w ((w.alloc (.cells #[.int .i64 what, .int .i64 a, .int .i64 b, .int .i64 d, .slice A l.length cap] 24)).alloc (.cells #[.int .i64 what, .int .i64 a, .int .i64 b, .int .i64 d, .slice p n cp] 24)) := below_al (below_al (Below.refl _ _) _) _
  have c1 := C1.out _ hb1
  have c2 := C2.out _ hb1
  have HB := Lib.hid hb1
  clear hb1
  go_wp2_with fail
  go_ret
  exact ⟨rfl, HB.out⟩
end Go.Proofs.YtbjhmgdkjbphkaaDoor
