/- Small lemmas that the walks of this claim share: what an ending returns, what holds up to an index, bytes of a text. -/
import Derived.Test.YtbekmflfmmcffaaGreatProg
import Derived.WalkKit
import Derived.WalkSpells
import Derived.WalkLawsBesides
import Derived.Lib.Hide
set_option linter.unusedVariables false
set_option linter.unusedSimpArgs false
set_option linter.unusedSectionVars false
namespace Go.Proofs.YtbekmflfmmcffaaGreat
open Go.RowKit

theorem bool_eq {a b : Bool} (h : a = b) : Ending.returned (.bool a) = Ending.returned (.bool b) := by rw [h]
theorem int_eq {k : IntKind} {a b : Int} (h : a = b) : Ending.returned (.int k a) = Ending.returned (.int k b) := by rw [h]
/-- What holds of every index below k (a plain definition: the walk takes it for no rule). -/
def Upto (Q : Nat → Prop) (k : Nat) : Prop := ∀ j, j < k → Q j
theorem Upto.zero (Q : Nat → Prop) : Upto Q 0 := fun j h => by omega
theorem Upto.succ {Q : Nat → Prop} {k : Nat} (h : Upto Q k) (hq : Q k) : Upto Q (k + 1) := fun j hj => by
  by_cases e : j = k
  · subst e; exact hq
  · exact h j (by omega)
theorem Upto.out {Q : Nat → Prop} {k : Nat} (h : Upto Q k) : ∀ j, j < k → Q j := h
theorem beq_cast (n m : Nat) : ((n : Int) == (m : Int)) = decide (n = m) := by
  by_cases h : n = m
  · subst h; simp
  · rw [decide_eq_false h, beq_eq_false_iff_ne]; omega
theorem beq_num (n : Nat) (m : Int) (h : 0 ≤ m) : ((n : Int) == m) = decide (n = m.toNat) := by
  obtain ⟨k, rfl⟩ := Int.eq_ofNat_of_zero_le h
  rw [beq_cast]; rfl
theorem size_toList (s : ByteArray) : s.data.toList.length = s.size := rfl
theorem get_toList (s : ByteArray) (k : Nat) (h : k < s.size) : s.data.toList[k]'(by simpa using h) = s[k] := rfl
theorem take_snoc (s : ByteArray) (k : Nat) (h : k < s.size) : s.data.toList.take (k + 1) = s.data.toList.take k ++ [s[k]] := by
  rw [List.take_succ_eq_append_getElem (by simpa using h)]; rfl
theorem all_false (s : ByteArray) (k : Nat) (h : k < s.size) (f : UInt8 → Bool) (hf : f s[k] = false) : s.data.toList.all f = false := by
  rw [Bool.eq_false_iff]
  intro ha
  rw [List.all_eq_true] at ha
  have := ha s[k] (by rw [← get_toList s k h]; exact List.getElem_mem _)
  rw [hf] at this; cases this
theorem all_true (s : ByteArray) (f : UInt8 → Bool) (h : ∀ j (hj : j < s.size), f s[j] = true) : s.data.toList.all f = true := by
  rw [List.all_eq_true]
  intro x hx
  obtain ⟨j, hj, rfl⟩ := List.mem_iff_getElem.1 hx
  exact h j (by simpa using hj)
theorem empty_iff (s : ByteArray) : s.data.toList.isEmpty = decide (s.size = 0) := by
  rw [← size_toList]; cases s.data.toList <;> simp
theorem byte_lt (b : UInt8) : b.toNat < 256 := b.toBitVec.isLt
theorem results_tmp4 {fn : Func} {t u v x : Tmp} (h : fn.results = #[.tmp t, .tmp u, .tmp v, .tmp x]) (tmps : Array Value) (P : Program) (w : World) :
    (results fn tmps).run P w = .ok (.tuple #[tmps.getD t undef, tmps.getD u undef, tmps.getD v undef, tmps.getD x undef]) w := by
  simp [results, h]
theorem below_al {w0 w : World} (h : Below w0.heap.size w0 w) (o : Obj) : Below w0.heap.size w0 (w.alloc o) := h.alloc h.size o
theorem below_step {B : Nat} {w0 w w1 : World} (h : Below B w0 w) (hB : B ≤ w.heap.size) (k : Below w.heap.size w w1) : Below B w0 w1 := h.trans (k.mono hB)
theorem below_then {w0 w w1 : World} (h : Below w0.heap.size w0 w) (k : Below w.heap.size w w1) : Below w0.heap.size w0 w1 := h.trans (k.mono h.size)
end Go.Proofs.YtbekmflfmmcffaaGreat
