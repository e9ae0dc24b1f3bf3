/- strings.Cut at a space, and the words of a line. -/
import Derived.Test.YtbjhmgdkjbphkaaDoorScrRead
set_option linter.unusedVariables false
set_option linter.unusedSimpArgs false
set_option linter.unusedSectionVars false
namespace Go.Proofs.YtbjhmgdkjbphkaaDoor
open Go.RowKit
theorem index_none : ∀ x : List UInt8, (32 : UInt8) ∉ x → Lib.index x [32] = -1
  | [], _ => rfl
  | b :: l, h => by
    have hb : ((32 : UInt8) == b) = false := by
      cases h2 : ((32 : UInt8) == b) with
      | false => rfl
      | true => rw [beq_iff_eq] at h2; exact absurd (by rw [h2]; simp) h
    simp only [Lib.index, List.isPrefixOf, hb, Bool.false_and, Bool.false_eq_true, if_false]
    rw [index_none l (fun hm => h (List.mem_cons_of_mem _ hm))]
    simp
theorem index_some : ∀ (x r : List UInt8), (32 : UInt8) ∉ x → Lib.index (x ++ 32 :: r) [32] = (x.length : Int)
  | [], r, _ => by simp [Lib.index, List.isPrefixOf]
  | b :: l, r, h => by
    have hb : ((32 : UInt8) == b) = false := by
      cases h2 : ((32 : UInt8) == b) with
      | false => rfl
      | true => rw [beq_iff_eq] at h2; exact absurd (by rw [h2]; simp) h
    have ih := index_some l r (fun hm => h (List.mem_cons_of_mem _ hm))
    simp only [List.cons_append, Lib.index, List.isPrefixOf, hb, Bool.false_and, Bool.false_eq_true, if_false]
    rw [ih]
    have : ¬ ((l.length : Int) == -1) = true := by simp
    rw [if_neg this]
    simp
theorem cut_last (x : List UInt8) (h : (32 : UInt8) ∉ x) : Lib.cut x [32] = (x, [], false) := by
  unfold Lib.cut
  rw [index_none x h, if_neg (by decide)]
theorem cut_more (x r : List UInt8) (h : (32 : UInt8) ∉ x) : Lib.cut (x ++ 32 :: r) [32] = (x, r, true) := by
  unfold Lib.cut
  rw [index_some x r h, if_pos (by omega)]
  simp
theorem dec_nosp (n : Nat) : (32 : UInt8) ∉ Lib.decDigits n := by
  have hd : ∀ k : Nat, k < 10 → ((32 : UInt8) == UInt8.ofNat (48 + k)) = false := by decide
  induction n using Nat.strongRecOn with
  | ind n ih =>
    rw [Lib.decDigits]
    split
    · rename_i h
      intro hm
      rw [List.mem_singleton] at hm
      have := hd n h
      rw [← hm] at this
      simp at this
    · rename_i h
      intro hm
      rcases List.mem_append.1 hm with hm | hm
      · exact ih (n / 10) (by omega) hm
      · rw [List.mem_singleton] at hm
        have := hd (n % 10) (by omega)
        rw [← hm] at this
        simp at this
theorem hex_nosp (l : List Int) (hw : ∀ y ∈ l, (Lit.int .u8 y).wf = true) : (32 : UInt8) ∉ hexL l := by
  have hd : ∀ n : Nat, n < 16 → ((32 : UInt8) == hexD n) = false := by decide
  unfold hexL
  intro hm
  obtain ⟨x, hx1, hx⟩ := List.mem_flatMap.1 hm
  obtain ⟨h0, h1⟩ := bounds_u8 (hw x hx1)
  simp only [List.mem_cons, List.not_mem_nil, or_false] at hx
  rcases hx with hx | hx
  · have := hd (x.toNat / 16) (by omega)
    rw [← hx] at this
    simp at this
  · have := hd (x.toNat % 16) (by omega)
    rw [← hx] at this
    simp at this
theorem name_nosp (what : Int) : (32 : UInt8) ∉ nameB what := by
  have hall : ∀ s ∈ names8, (32 : UInt8) ∉ s.data.toList := by decide
  unfold nameB
  rw [List.getD_eq_getElem?_getD]
  cases h : names8[what.toNat]? with
  | none => simp
  | some s => exact hall s (List.mem_of_getElem? h)
/-- What strings.Cut reads of the world. -/
def CutOk (w : World) : Prop := ∃ m : Int, w.cell? ⟨4, 0, none⟩ = some (.int .i64 m)
theorem CutOk.below {w w' : World} (h : CutOk w) (hb : Below w.heap.size w w') : CutOk w' := by
  obtain ⟨m, hm⟩ := h
  exact ⟨m, (hb.cell (World.block_lt_of_cell? w _ hm)).trans hm⟩
theorem below_drewN0 (w : World) (n : Nat) : Below w.heap.size w (w.drewN n) := ⟨rfl, rfl, rfl, Nat.le_refl _, fun _ _ => rfl⟩
theorem cut_any (s x r : List UInt8) (m : Bool) (w : World) (hs : s.length ≤ 1048576) (hc : Lib.cut s [32] = (x, r, m)) (ho : CutOk w) :
    Calls Tryd.prog 31 #[.string ⟨s.toArray⟩, .string ⟨#[32]⟩] w fun e w' => e = .returned (.tuple #[.string ⟨x.toArray⟩, .string ⟨r.toArray⟩, .bool m]) ∧ Below w.heap.size w w' := by
  obtain ⟨q, hq⟩ := ho
  have h := Go.Proofs.Any.strings_Cut { Tryd.laysM145 with } ⟨s.toArray⟩ ⟨#[32]⟩ q w (by rw [size_mk]; omega) hq
  have e : Lib.cut (⟨s.toArray⟩ : ByteArray).data.toList (⟨#[32]⟩ : ByteArray).data.toList = (x, r, m) := hc
  rw [e] at h
  refine h.mono ?_
  rintro e w' ⟨he, n, rfl⟩
  exact ⟨he, below_drewN0 w n⟩
end Go.Proofs.YtbjhmgdkjbphkaaDoor
