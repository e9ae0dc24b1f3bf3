/- What a value is: plain laws on bytes. -/
import Derived.Test.YtfljibjjpgdmhaaGreatDoorKit
import Derived.Lib.SlTrimSet
import Derived.Lib.IndexAny
set_option linter.unusedVariables false
set_option linter.unusedSimpArgs false
set_option linter.unusedSectionVars false
namespace Go.Proofs.YtfljibjjpgdmhaaGreatDoor
open Go.RowKit
def crlf : ByteArray := ⟨#[0, 13, 10]⟩
def blanks : ByteArray := ⟨#[32, 9]⟩
theorem crlf_get : ∀ j (h : j < crlf.size), crlf[j].toNat < 128 := by decide
def badB (b : UInt8) : Bool := crlf.data.toList.contains b
def blankB (b : UInt8) : Bool := blanks.data.toList.contains b
def endsB (l : List UInt8) : Bool := match l.head?, l.getLast? with
  | some a, some b => !blankB a && !blankB b
  | _, _ => true
def valueB (l : List UInt8) : Bool := !l.any badB && endsB l
theorem indexAny_any : ∀ l : List UInt8, decide (0 ≤ Lib.indexAny l crlf.data.toList) = l.any badB
  | [] => rfl
  | b :: t => by
    have ih := indexAny_any t
    have hge := Lib.indexAny_ge crlf.data.toList t
    unfold Lib.indexAny
    rw [List.any_cons, ← ih]
    by_cases hb : badB b = true
    · rw [if_pos (show crlf.data.toList.contains b = true from hb), hb]; simp
    · have hb' : badB b = false := by simpa using hb
      rw [if_neg (show ¬ crlf.data.toList.contains b = true from hb), hb', Bool.false_or]
      split
      · rename_i h; rw [beq_iff_eq] at h; rw [h]
      · rename_i h
        have : Lib.indexAny t crlf.data.toList ≠ -1 := by simpa using h
        rw [decide_eq_decide]; omega
theorem indexByte_bad (b : UInt8) : decide (0 ≤ Lib.indexByte crlf.data.toList b) = badB b := by
  show decide (0 ≤ Lib.indexByte [0, 13, 10] b) = [(0 : UInt8), 13, 10].contains b
  simp only [Lib.indexByte, List.contains_cons, List.contains_nil, Bool.or_false]
  by_cases h1 : b = 0
  · subst h1; rfl
  · by_cases h2 : b = 13
    · subst h2; rfl
    · by_cases h3 : b = 10
      · subst h3; rfl
      · have e1 : (b == 0) = false := by simpa using h1
        have e2 : (b == 13) = false := by simpa using h2
        have e3 : (b == 10) = false := by simpa using h3
        have f1 : ((0 : UInt8) == b) = false := by rw [beq_eq_false_iff_ne]; exact fun e => h1 e.symm
        have f2 : ((13 : UInt8) == b) = false := by rw [beq_eq_false_iff_ne]; exact fun e => h2 e.symm
        have f3 : ((10 : UInt8) == b) = false := by rw [beq_eq_false_iff_ne]; exact fun e => h3 e.symm
        simp [e1, e2, e3, f1, f2, f3]
theorem bad_high {b : UInt8} (h : 128 ≤ b.toNat) : badB b = false := by
  rw [badB, ← Bool.not_eq_true, List.contains_iff_mem]
  intro hm
  have : ∀ x ∈ crlf.data.toList, x.toNat < 128 := by decide
  have := this b hm
  omega
theorem dw_eq {p : UInt8 → Bool} : ∀ {l : List UInt8}, l.dropWhile p = l ↔ ∀ a, l.head? = some a → p a = false
  | [] => by simp
  | a :: t => by
    rw [List.dropWhile_cons]
    by_cases h : p a = true
    · simp only [h, if_true, List.head?_cons, Option.some.injEq, forall_eq']
      constructor
      · intro e
        have h1 := (List.dropWhile_sublist p (l := t)).length_le
        rw [e] at h1; simp at h1; omega
      · intro e; cases e
    · simp [h]
theorem trim_ends (l : List UInt8) : (Lib.trimS l blanks.data.toList == l) = endsB l := by
  rw [Bool.eq_iff_iff, beq_iff_eq]
  have hp : (fun x => blanks.data.toList.contains x) = blankB := rfl
  unfold Lib.trimS Lib.trimLeftS Lib.trimRightS
  rw [hp]
  have hR : (List.dropWhile blankB l.reverse).reverse = l ↔ ∀ a, l.getLast? = some a → blankB a = false := by
    rw [← List.head?_reverse, ← dw_eq, List.reverse_eq_iff]
  have hE : endsB l = true ↔ (∀ a, l.head? = some a → blankB a = false) ∧ ∀ a, l.getLast? = some a → blankB a = false := by
    unfold endsB
    cases l with
    | nil => simp
    | cons a t =>
      rw [List.head?_cons, List.getLast?_cons]
      simp
  rw [hE]
  constructor
  · intro h
    have h1 := (List.dropWhile_sublist blankB (l := (List.dropWhile blankB l.reverse).reverse)).length_le
    have h2 : (List.dropWhile blankB l.reverse).reverse.Sublist l := by
      have := (List.dropWhile_sublist blankB (l := l.reverse)).reverse
      rwa [List.reverse_reverse] at this
    have e : (List.dropWhile blankB l.reverse).reverse = l := h2.eq_of_length_le (by rw [h] at h1; exact h1)
    rw [e] at h
    exact ⟨dw_eq.1 h, hR.1 e⟩
  · rintro ⟨h1, h2⟩
    rw [hR.2 h2, dw_eq.2 h1]
theorem ends_get (s : ByteArray) (h : 0 < s.size) : endsB s.data.toList = (!blankB s[0] && !blankB (s[s.size - 1]'(by omega))) := by
  have h0 : s.data.toList.head? = some s[0] := by
    rw [List.head?_eq_getElem?, List.getElem?_eq_getElem (by rw [size_toList]; exact h)]; rfl
  have h1 : s.data.toList.getLast? = some (s[s.size - 1]'(by omega)) := by
    rw [List.getLast?_eq_getElem?, size_toList, List.getElem?_eq_getElem (by rw [size_toList]; omega)]; rfl
  rw [endsB, h0, h1]
theorem ends_empty (s : ByteArray) (h : s.size = 0) : endsB s.data.toList = true := by
  have : s.data.toList = [] := List.eq_nil_of_length_eq_zero (by rw [size_toList]; exact h)
  rw [this]; rfl
theorem any_badT (s : ByteArray) (k : Nat) (h : k < s.size) (hf : badB s[k] = true) : s.data.toList.any badB = true :=
  List.any_eq_true.2 ⟨s[k], by rw [← get_toList s k h]; exact List.getElem_mem _, hf⟩
theorem any_badF (s : ByteArray) (h : Upto (fun j => ∀ h : j < s.size, badB s[j] = false) s.size) : s.data.toList.any badB = false := by
  rw [List.any_eq_false]
  intro x hx
  obtain ⟨j, hj, rfl⟩ := List.mem_iff_getElem.1 hx
  rw [size_toList] at hj
  rw [get_toList s j hj, h.out j hj hj]; simp
theorem enc_last (c : Nat) (h : 128 ≤ c) : 2 ≤ (Utf8.encode (c : Int)).size ∧ (Utf8.encode (c : Int)).size ≤ 4 ∧ ∀ k (hk : k < (Utf8.encode (c : Int)).size), k + 1 = (Utf8.encode (c : Int)).size → 128 ≤ (Utf8.encode (c : Int))[k].toNat := by
  obtain ⟨n, hn, he⟩ : ∃ n : Nat, 128 ≤ n ∧ (if Utf8.valid (c : Int) then (c : Int).toNat else Utf8.runeError) = n := ⟨_, by split <;> simp [Utf8.runeError] <;> omega, rfl⟩
  unfold Utf8.encode
  simp only [he]
  split
  · omega
  · split
    · refine ⟨by show 2 ≤ 2; omega, by show 2 ≤ 4; omega, fun k hk e => ?_⟩
      obtain rfl : k = 1 := by have : k + 1 = 2 := e; omega
      show 128 ≤ (UInt8.ofNat (0x80 + n % 64)).toNat
      rw [UInt8.toNat_ofNat']; omega
    · split
      · refine ⟨by show 2 ≤ 3; omega, by show 3 ≤ 4; omega, fun k hk e => ?_⟩
        obtain rfl : k = 2 := by have : k + 1 = 3 := e; omega
        show 128 ≤ (UInt8.ofNat (0x80 + n % 64)).toNat
        rw [UInt8.toNat_ofNat']; omega
      · refine ⟨by show 2 ≤ 4; omega, by show 4 ≤ 4; omega, fun k hk e => ?_⟩
        obtain rfl : k = 3 := by have : k + 1 = 4 := e; omega
        show 128 ≤ (UInt8.ofNat (0x80 + n % 64)).toNat
        rw [UInt8.toNat_ofNat']; omega
end Go.Proofs.YtfljibjjpgdmhaaGreatDoor
