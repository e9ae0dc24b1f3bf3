/- What a hundred rounds of open and reset make of the streams: plain law, decided. -/
import Derived.Test.YtpnghehigffcdaaStrNew
namespace Go.Proofs.Ytpnghehigffcdaa
instance decFault : DecidableEq FaultR := fun a b => decidable_of_iff (a.is = b.is ∧ a.stream = b.stream ∧ a.code = b.code) (by cases a; cases b; simp)
instance decPS : DecidableEq PS := fun a b => decidable_of_iff (a.server = b.server ∧ a.may0 = b.may0 ∧ a.may1 = b.may1 ∧ a.last0 = b.last0 ∧ a.last1 = b.last1 ∧ a.es = b.es ∧ a.gone = b.gone ∧ a.next = b.next) (by cases a; cases b; simp)

/-- The streams after k rounds. -/
def dropsP (k : Nat) : PS := ⟨true, 10, 1024, if k = 0 then 0 else 2 * (k : Int) - 1, 0, [], (List.range 64).map fun j => if j + 64 < k then 2 * ((j : Int) + 64) + 1 else if j < k then 2 * (j : Int) + 1 else 0, k⟩
def drops1 (k : Nat) (st : Int) : PS := { dropsP k with last0 := 2 * (k : Int) + 1, es := [(2 * (k : Int) + 1, st)] }
theorem drops_new : PS.new true 10 = dropsP 0 := by decide +kernel
theorem drops_peer : ∀ k, k < 100 → (dropsP k).peer (2 * (k : Int) + 1) = (drops1 k 0, true, noFault) := by decide +kernel
theorem drops_do : ∀ k, k < 100 → (drops1 k 0).do (2 * (k : Int) + 1) 0 = (drops1 k 1, 1, noFault, 0) := by decide +kernel
theorem drops_reset : ∀ k, k < 100 → (drops1 k 1).do (2 * (k : Int) + 1) 8 = (dropsP (k + 1), 4, noFault, 0) := by decide +kernel
theorem drops_first' : ∀ n, n < 101 → 1 ≤ n → ∀ c, c < 3 → ((dropsP n).do 1 (c : Nat)).1 = dropsP n ∧ ((dropsP n).do 1 (c : Nat)).2.2.1.is = decide (64 < n) ∧ ((dropsP n).do 1 (c : Nat)).2.2.2 = 0 := by decide +kernel
theorem drops_last' : ∀ n, n < 101 → 1 ≤ n → ∀ c, c < 5 → ((dropsP n).do (2 * (n : Int) - 1) (c : Nat)).1 = dropsP n ∧ ((dropsP n).do (2 * (n : Int) - 1) (c : Nat)).2.2.1.is = false ∧ ((dropsP n).do (2 * (n : Int) - 1) (c : Nat)).2.2.2 = 0 := by decide +kernel
theorem drops_tell : ∀ n, n < 101 → 1 ≤ n → (dropsP n).dropped 1 = decide (n ≤ 64) ∧ (dropsP n).state 1 = 4 ∧ (dropsP n).count 0 = 0 := by decide +kernel
theorem drops_next (n : Nat) : (dropsP n).next = n := rfl
end Go.Proofs.Ytpnghehigffcdaa
