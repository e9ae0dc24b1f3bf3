/- Plain: an event's line. -/
import Derived.Test.YtbjhmgdkjbphkaaDoorScrNames
import Derived.Lib.Join
set_option linter.unusedVariables false
set_option linter.unusedSimpArgs false
set_option linter.unusedSectionVars false
namespace Go.Proofs.YtbjhmgdkjbphkaaDoor
open Go.RowKit
def okB (n : Int) : Bool := decide (0 ≤ n) && decide (n ≤ 999999999)
def fineK (fw : Bool) (a b d : Int) : Nat → Bool
  | 0 => fw
  | 1 => fw && okB a
  | 2 => fw && okB a && okB b
  | _ => fw && okB a && okB b && okB d
def nT (a b d : Int) : Nat := if d ≠ 0 then 3 else if b ≠ 0 then 2 else if a ≠ 0 then 1 else 0
def numsT (a b d : Int) : List Int := [a, b, d].take (nT a b d)
def nameB (what : Int) : List UInt8 := (names8.getD what.toNat ⟨#[]⟩).data.toList
/-- The name, and the numbers behind it. -/
def headT (what a b d : Int) (j : Nat) : List UInt8 := nameB what ++ (([a, b, d].take j).flatMap fun n => 32 :: Lib.itoa n)
def lineT (what a b d : Int) (bs : List Int) : List UInt8 := headT what a b d (nT a b d) ++ (if bs = [] then [] else 32 :: 61 :: hexL bs)
def printOk (what a b d : Int) : Bool := fineK (decide (0 ≤ what) && decide (what < 8)) a b d 3
def printF (what a b d : Int) (bs : List Int) : ByteArray × Int :=
  if printOk what a b d = false then (⟨#[]⟩, 4)
  else if bs ≠ [] ∧ 65536 < (lineT what a b d bs).length then (⟨#[]⟩, 2)
  else (⟨(lineT what a b d bs).toArray⟩, 0)
theorem nT_le (a b d : Int) : nT a b d ≤ 3 := by
  unfold nT
  split
  · omega
  split
  · omega
  split <;> omega
theorem nT_down1 {a b d : Int} (h : nT a b d ≤ 1) (hz : a = 0) : nT a b d ≤ 0 := by
  unfold nT at *
  split at h
  · omega
  split at h
  · omega
  rename_i h1 h2
  rw [if_neg h1, if_neg h2, if_neg (by omega)]
  exact Nat.le_refl _
theorem nT_at1 {a b d : Int} (h : nT a b d ≤ 1) (hz : a ≠ 0) : nT a b d = 1 := by
  unfold nT at *
  split at h
  · omega
  split at h
  · omega
  rename_i h1 h2
  rw [if_neg h1, if_neg h2, if_pos hz]
theorem nT_down2 {a b d : Int} (h : nT a b d ≤ 2) (hz : b = 0) : nT a b d ≤ 1 := by
  unfold nT at *
  split at h
  · omega
  rename_i h1
  rw [if_neg h1, if_neg (by omega)]
  split <;> omega
theorem nT_at2 {a b d : Int} (h : nT a b d ≤ 2) (hz : b ≠ 0) : nT a b d = 2 := by
  unfold nT at *
  split at h
  · omega
  rename_i h1
  rw [if_neg h1, if_pos hz]
theorem nT_down3 {a b d : Int} (hz : d = 0) : nT a b d ≤ 2 := by
  unfold nT
  rw [if_neg (by omega)]
  split
  · omega
  split <;> omega
theorem nT_at3 {a b d : Int} (hz : d ≠ 0) : nT a b d = 3 := by
  unfold nT
  rw [if_pos hz]
theorem itoa_len {n : Int} (h : okB n = true) : (Lib.itoa n).length ≤ 64 := by
  unfold okB at h
  simp at h
  obtain ⟨n, rfl⟩ := Int.eq_ofNat_of_zero_le h.1
  rw [itoa_nat]
  exact nD_le (by omega)
theorem nameB_len (what : Int) : (nameB what).length ≤ 6 := by
  unfold nameB
  have hall : ∀ s ∈ names8, s.data.toList.length ≤ 6 := by decide
  rw [List.getD_eq_getElem?_getD]
  cases h : names8[what.toNat]? with
  | none => simp
  | some s => exact hall s (List.mem_of_getElem? h)
theorem headT_len {what a b d : Int} (h : printOk what a b d = true) (j : Nat) : (headT what a b d j).length ≤ 300 := by
  unfold printOk fineK at h
  simp only [Bool.and_eq_true] at h
  have h1 := itoa_len h.1.1.2
  have h2 := itoa_len h.1.2
  have h3 := itoa_len h.2
  have h0 := nameB_len what
  unfold headT
  match j with
  | 0 => simp; omega
  | 1 => simp; omega
  | 2 => simp; omega
  | j + 3 => simp; omega
theorem headT_snoc (what a b d : Int) (j : Nat) (hj : j < 3) : headT what a b d (j + 1) = headT what a b d j ++ 32 :: Lib.itoa ([a, b, d][j]'(by simpa using hj)) := by
  unfold headT
  match j, hj with
  | 0, _ => simp
  | 1, _ => simp
  | 2, _ => simp
/-- The words, joined. -/
theorem join_words (x : List UInt8) (r : List (List UInt8)) : Lib.join (x :: r) [32] = x ++ r.flatMap (fun y => 32 :: y) := by
  induction r generalizing x with
  | nil => simp [Lib.join_one]
  | cons y r ih =>
    have h : Lib.join (x :: y :: r) [32] = x ++ [32] ++ Lib.join (y :: r) [32] := by
      unfold Lib.join
      simp [List.intercalate, List.intersperse]
    rw [h, ih]
    simp
end Go.Proofs.YtbjhmgdkjbphkaaDoor
