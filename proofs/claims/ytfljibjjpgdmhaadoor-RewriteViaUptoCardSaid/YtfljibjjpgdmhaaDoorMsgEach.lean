/- The walks of the reference's pseudo, has, each and Trailers at any list of allowed names. -/
import Derived.Test.YtfljibjjpgdmhaaDoorMsgWalk
import Derived.Test.YtfljibjjpgdmhaaDoorMsgRVal
set_option linter.unusedVariables false
set_option linter.unusedSimpArgs false
set_option linter.unusedSectionVars false
namespace Go.Proofs.YtfljibjjpgdmhaaDoor
open Go.RowKit
theorem HdrsAt.take {w : World} {A : Option Addr} {l : List Hdr} (h : HdrsAt w A l) (k : Nat) : HdrsAt w A (l.take k) := by
  refine ⟨by simp, fun h0 => ?_⟩
  obtain ⟨a, ha, hb, hc⟩ := h.2 (by rw [List.length_take] at h0; omega)
  refine ⟨a, ha, hb, fun i cs hi => hc i cs ?_⟩
  rw [List.map_take, List.getElem?_take] at hi
  split at hi
  · exact hi
  · cases hi
theorem rfind_take (A : Option Addr) (cap : Nat) (l : List Hdr) (k : Nat) (hk : k ≤ l.length) (name : ByteArray) (w : World) (hl : HdrsAt w A l) (hm : l.length ≤ maxLen) :
    Calls Tryd.prog 6 #[.slice A k cap, .string name] w fun e w' => (∃ x, e = .returned (.tuple #[.string x, .bool (findH name (l.take k)).isSome])) ∧ w = w' := by
  have h := rfind_any A cap (l.take k) name w (hl.take k) (by rw [List.length_take]; omega)
  rw [List.length_take, Nat.min_eq_left hk] at h
  exact h.mono fun e w' ⟨he, hw⟩ => ⟨⟨_, he⟩, hw⟩
theorem pseu_empty (s : ByteArray) (h : s.size = 0) : pseuB s.data.toList = false := by
  have : s.data.toList = [] := List.eq_nil_of_length_eq_zero (by rw [size_toList]; exact h)
  rw [this]; rfl
theorem pseu_get (s : ByteArray) (h : 0 < s.size) : pseuB s.data.toList = decide (s[0].toNat = 58) := by
  cases hl : s.data.toList with
  | nil => rw [← size_toList, hl] at h; simp at h
  | cons b t =>
    have hb : s[0] = b := by
      have := get_toList s 0 h
      rw [← this]; simp [hl]
    rw [hb]
    show List.isPrefixOf [58] (b :: t) = _
    simp only [List.isPrefixOf, Bool.and_true]
    rw [Bool.eq_iff_iff, beq_iff_eq, decide_eq_true_eq]
    constructor
    · intro e; rw [← e]; rfl
    · intro e; exact UInt8.toNat_inj.1 (by rw [e]; rfl)
theorem rest_yes (s : ByteArray) (h : pseuB s.data.toList = true) : 1 ≤ s.size ∧ (s.extract 1 s.size).data.toList = restL s.data.toList := by
  have h1 : 1 ≤ s.size := by
    rcases Nat.eq_zero_or_pos s.size with h0 | h0
    · rw [pseu_empty s h0] at h; cases h
    · exact h0
  refine ⟨h1, ?_⟩
  unfold restL Lib.trimPrefix
  rw [show Lib.hasPrefix s.data.toList [58] = true from h]
  simp [ByteArray.data_extract, Array.toList_extract, List.extract]
  exact List.take_of_length_le (by rw [List.length_tail, size_toList]; exact Nat.le_refl _)
theorem rest_no (s : ByteArray) (h : pseuB s.data.toList = false) : restL s.data.toList = s.data.toList := by
  unfold restL Lib.trimPrefix
  rw [show Lib.hasPrefix s.data.toList [58] = false from h]
  rfl
end Go.Proofs.YtfljibjjpgdmhaaDoor
