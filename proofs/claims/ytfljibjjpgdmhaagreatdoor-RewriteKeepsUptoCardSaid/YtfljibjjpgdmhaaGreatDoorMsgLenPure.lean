/- The length that a list of headers tells: plain laws on bytes and lists. -/
import Derived.Test.YtfljibjjpgdmhaaGreatDoorHdr
import Derived.Lib.SlTrimSet
import Derived.Lib.Atoi
set_option linter.unusedVariables false
set_option linter.unusedSimpArgs false
set_option linter.unusedSectionVars false
namespace Go.Proofs.YtfljibjjpgdmhaaGreatDoor
open Go.RowKit
def clK : ByteArray := ⟨#[99, 111, 110, 116, 101, 110, 116, 45, 108, 101, 110, 103, 116, 104]⟩
def digK : ByteArray := ⟨#[48, 49, 50, 51, 52, 53, 54, 55, 56, 57]⟩
def isDig (b : UInt8) : Bool := decide (48 ≤ b.toNat ∧ b.toNat ≤ 57)
def digitsB (s : ByteArray) : Bool := decide (1 ≤ s.size) && decide (s.size ≤ 9) && s.data.toList.all isDig
def numF (l : List UInt8) : Nat := l.foldl (fun n b => 10 * n + (b.toNat - 48)) 0
def badH (f : ByteArray) (h : Hdr) : Bool := (h.name.toList == clK.toList) && (!(h.value.toList == f.toList) || !digitsB f)

theorem dig_fin : ∀ n : Nat, n < 256 → decide (48 ≤ n ∧ n ≤ 57) = (digK.data.toList.map UInt8.toNat).contains n := by decide +kernel
theorem dig_contains (b : UInt8) : digK.data.toList.contains b = isDig b := by
  unfold isDig
  rw [dig_fin b.toNat b.toBitVec.isLt]
  rw [Bool.eq_iff_iff, List.contains_iff_mem, List.contains_iff_mem, List.mem_map]
  constructor
  · intro h; exact ⟨b, h, rfl⟩
  · rintro ⟨x, hx, e⟩
    have : x = b := UInt8.toNat_inj.1 e
    exact this ▸ hx
theorem dw_nil {p : UInt8 → Bool} : ∀ {l : List UInt8}, l.dropWhile p = [] ↔ ∀ x ∈ l, p x = true
  | [] => by simp
  | a :: t => by
    rw [List.dropWhile_cons]
    by_cases h : p a = true
    · simp only [h, if_true, List.mem_cons, forall_eq_or_imp, true_and]
      exact dw_nil
    · simp [h]
theorem trim_digits (l : List UInt8) : (Lib.trimS l digK.data.toList).isEmpty = l.all isDig := by
  have hp : (digK.data.toList.contains ·) = isDig := funext dig_contains
  unfold Lib.trimS Lib.trimLeftS Lib.trimRightS
  rw [hp]
  rw [Bool.eq_iff_iff, List.isEmpty_iff, List.all_eq_true]
  constructor
  · intro h
    have h1 : ∀ x ∈ (List.dropWhile isDig l.reverse).reverse, isDig x = true := by
      intro x hx
      have := dw_nil.1 h
      exact this x hx
    cases hd : List.dropWhile isDig l.reverse with
    | nil =>
      have := dw_nil.1 hd
      intro x hx
      exact this x (List.mem_reverse.2 hx)
    | cons x t =>
      have hn : isDig x = false := by
        have := List.head?_dropWhile_not isDig l.reverse
        rw [hd] at this
        simpa using this
      rw [hd] at h1
      have := h1 x (by simp)
      rw [hn] at this; cases this
  · intro h
    have h2 : List.dropWhile isDig l.reverse = [] := dw_nil.2 (fun x hx => h x (List.mem_reverse.1 hx))
    rw [h2]; rfl

theorem numF_snoc (l : List UInt8) (b : UInt8) : numF (l ++ [b]) = 10 * numF l + (b.toNat - 48) := by simp [numF]
theorem numF_lt : ∀ (k : Nat) (l : List UInt8), l.length = k → l.all isDig = true → numF l < 10 ^ k := by
  intro k
  induction k with
  | zero => intro l hl _; have := List.eq_nil_of_length_eq_zero hl; subst this; simp [numF]
  | succ k ih =>
    intro l hl ha
    obtain ⟨t, b, rfl⟩ : ∃ t b, l = t ++ [b] := ⟨l.dropLast, l.getLast (by intro e; rw [e] at hl; simp at hl), (List.dropLast_concat_getLast _).symm⟩
    rw [numF_snoc]
    simp only [List.all_append, Bool.and_eq_true, List.all_cons, List.all_nil, Bool.and_true] at ha
    have h1 := ih t (by simpa using hl) ha.1
    have h2 : b.toNat - 48 < 10 := by have := ha.2; simp [isDig] at this; omega
    rw [Nat.pow_succ]; omega
theorem digitVal_dig {b : UInt8} (h : isDig b = true) : Lib.digitVal b = some (b.toNat - 48) := by
  simp only [isDig, decide_eq_true_eq] at h
  rw [Lib.digitVal, if_pos h]
theorem decFrom_dig : ∀ (l : List UInt8) (acc : Nat), l.all isDig = true → Lib.decFrom acc l = some (l.foldl (fun n b => 10 * n + (b.toNat - 48)) acc)
  | [], _, _ => rfl
  | b :: t, acc, h => by
    simp only [List.all_cons, Bool.and_eq_true] at h
    rw [Lib.decFrom, digitVal_dig h.1]
    simp only [List.foldl_cons]
    rw [decFrom_dig t _ h.2, Nat.mul_comm]
theorem atoi_digits {s : ByteArray} (h : digitsB s = true) : Lib.atoi s.data.toList = some ((numF s.data.toList : Nat) : Int) := by
  simp only [digitsB, Bool.and_eq_true, decide_eq_true_eq] at h
  obtain ⟨⟨h1, _⟩, h3⟩ := h
  cases hl : s.data.toList with
  | nil => rw [← size_toList, hl] at h1; simp at h1
  | cons b t =>
    rw [hl] at h3
    have hb : isDig b = true := by simp only [List.all_cons, Bool.and_eq_true] at h3; exact h3.1
    have hb' := hb
    simp only [isDig, decide_eq_true_eq] at hb'
    have n1 : (b == 45) = false := by rw [beq_eq_false_iff_ne]; rintro rfl; revert hb'; decide
    have n2 : (b == 43) = false := by rw [beq_eq_false_iff_ne]; rintro rfl; revert hb'; decide
    rw [Lib.atoi]
    simp only [n1, n2, Bool.false_eq_true, if_false, Lib.decNat, List.isEmpty_cons]
    rw [decFrom_dig _ _ h3]
    rfl
theorem numF_bound {s : ByteArray} (h : digitsB s = true) : numF s.data.toList < 1000000000 := by
  simp only [digitsB, Bool.and_eq_true, decide_eq_true_eq] at h
  obtain ⟨⟨_, h2⟩, h3⟩ := h
  have := numF_lt _ _ rfl h3
  rw [size_toList] at this
  exact Nat.lt_of_lt_of_le this (Nat.pow_le_pow_right (by omega) h2)
theorem numF_take {s : ByteArray} (h : digitsB s = true) (k : Nat) (hk : k < s.size) : numF (s.data.toList.take (k + 1)) = 10 * numF (s.data.toList.take k) + (s[k].toNat - 48) ∧ numF (s.data.toList.take k) < 100000000 ∧ 48 ≤ s[k].toNat ∧ s[k].toNat ≤ 57 := by
  simp only [digitsB, Bool.and_eq_true, decide_eq_true_eq] at h
  obtain ⟨⟨_, h2⟩, h3⟩ := h
  refine ⟨by rw [take_snoc s k hk, numF_snoc], ?_, ?_⟩
  · have ha : (s.data.toList.take k).all isDig = true := List.all_eq_true.2 fun x hx => List.all_eq_true.1 h3 x (List.mem_of_mem_take hx)
    have := numF_lt k (s.data.toList.take k) (by rw [List.length_take, size_toList]; omega) ha
    exact Nat.lt_of_lt_of_le this (Nat.pow_le_pow_right (n := 10) (i := k) (j := 8) (by omega) (by omega))
  · have := List.all_eq_true.1 h3 s[k] (by rw [← get_toList s k hk]; exact List.getElem_mem _)
    simpa [isDig] using this
theorem list_inj {a b : ByteArray} (h : (a.toList == b.toList) = true) : a = b := by
  rw [beq_iff_eq, ByteArray.toList_eq, ByteArray.toList_eq] at h
  cases a; cases b; simp at h; simp [h]
theorem find_mem {name : ByteArray} : ∀ {l : List Hdr} {f : ByteArray}, findH name l = some f → ∃ h ∈ l, (h.name.toList == name.toList) = true ∧ h.value = f
  | [], _, h => by simp [findH] at h
  | h :: t, f, e => by
    unfold findH at e
    split at e
    · rename_i hn
      simp only [Option.some.injEq] at e
      exact ⟨h, by simp, hn, e⟩
    · obtain ⟨x, hx, r⟩ := find_mem e
      exact ⟨x, by simp [hx], r⟩
theorem find_none {name : ByteArray} : ∀ {l : List Hdr}, findH name l = none → ∀ h ∈ l, (h.name.toList == name.toList) = false
  | [], _, _, hx => by simp at hx
  | h :: t, e, x, hx => by
    unfold findH at e
    split at e
    · cases e
    · rename_i hn
      rcases List.mem_cons.1 hx with rfl | hx
      · simpa using hn
      · exact find_none e x hx
/-- No header is bad, and one is there: the first one's value is digits. -/
theorem good_digits {l : List Hdr} {f : ByteArray} (h : findH clK l = some f) (hb : l.any (badH f) = false) : digitsB f = true := by
  obtain ⟨x, hx, hn, rfl⟩ := find_mem h
  have := List.any_eq_false.1 hb x hx
  simp only [badH, hn, Bool.true_and, beq_self_eq_true, Bool.not_true, Bool.false_or] at this
  simpa using this
theorem none_good {l : List Hdr} (f : ByteArray) (h : findH clK l = none) : l.any (badH f) = false := by
  rw [List.any_eq_false]
  intro x hx
  simp [badH, find_none h x hx]
theorem any_hit {l : List Hdr} {p : Hdr → Bool} (k : Nat) (hk : k < l.length) (h : p l[k] = true) : l.any p = true := List.any_eq_true.2 ⟨_, List.getElem_mem hk, h⟩
theorem any_miss {l : List Hdr} {p : Hdr → Bool} (h : Upto (fun j => ∀ h : j < l.length, p l[j] = false) l.length) : l.any p = false := by
  rw [List.any_eq_false]
  intro x hx
  obtain ⟨j, hj, rfl⟩ := List.mem_iff_getElem.1 hx
  rw [h.out j hj hj]; simp
/-- What both say. -/
def lenF (l : List Hdr) : Int × Bool × Int :=
  if l.any (badH ((findH clK l).getD emptyB)) then (0, false, 134)
  else match findH clK l with
    | none => (0, false, 0)
    | some f => (((numF f.data.toList : Nat) : Int), true, 0)
end Go.Proofs.YtfljibjjpgdmhaaGreatDoor
