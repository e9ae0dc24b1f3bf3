/- The pool's steps, plain. -/
import Derived.Test.YtilkfcpdeeaifaaPoolAt
set_option linter.unusedVariables false
set_option linter.unusedSimpArgs false
set_option linter.unusedSectionVars false
namespace Go.Proofs.Ytilkfcpdeeaifaa
open Go.RowKit Go.Sort
def PS.setB (s : PS) (i : Nat) (b : Bk) : PS := { s with bs := s.bs.set i b }
def PS.timer (s : PS) (n a : Int) : PS := { s with W := (s.W.setF n a).1 }
def PS.settleF (s : PS) (i : Nat) (b : Bk) : PS :=
  if b.st = 3 then (if 0 < b.ld then s else (s.setB i { b with st := 0 }).timer i 1)
  else if b.st = 0 then s.timer i 1 else s
def PS.openedF (s : PS) (n : Int) : PS × Int := match s.get n with
  | none => (s, 1)
  | some b => if [(1 : Int)].contains b.st = true then (s.setB n.toNat { b with st := 2, ld := 0, may := 0, wt := s.retry }, 0) else (s, 5)
def PS.failedF (s : PS) (n : Int) : PS × Int := match s.get n with
  | none => (s, 1)
  | some b => if [(1 : Int), 2, 3].contains b.st = true then ((s.setB n.toNat { b with st := 0, ld := 0, wt := min s.most (2 * b.wt) }).timer n b.wt, 0) else (s, 5)
def PS.drainF (s : PS) (n : Int) : PS × Int := match s.get n with
  | none => (s, 1)
  | some b => if [(2 : Int)].contains b.st = true then ((s.setB n.toNat { b with st := 3 }).settleF n.toNat { b with st := 3 }, 0) else (s, 5)
def PS.limitF (s : PS) (n k : Int) : PS × Int := match s.get n with
  | none => (s, 1)
  | some b => if [(2 : Int), 3].contains b.st = true then (if k < 0 then (s, 1) else (s.setB n.toNat { b with may := k }, 0)) else (s, 5)
def PS.takeF (s : PS) (n : Int) : PS × Int := match s.get n with
  | none => (s, 1)
  | some b => if [(2 : Int)].contains b.st = true then (if b.may ≤ b.ld then (s, 9) else (s.setB n.toNat { b with ld := b.ld + 1 }, 0)) else (s, 5)
def PS.putF (s : PS) (n : Int) : PS × Int := match s.get n with
  | none => (s, 1)
  | some b => if b.ld = 0 then (s, 5) else
      if b.st = 3 then ((s.setB n.toNat { b with ld := b.ld - 1 }).settleF n.toNat { b with ld := b.ld - 1 }, 0) else (s.setB n.toNat { b with ld := b.ld - 1 }, 0)
def PS.stateF (s : PS) (n : Int) : Int := match s.get n with
  | none => -1
  | some b => b.st
def PS.waitF (s : PS) (n : Int) : Int := match s.get n with
  | none => 0
  | some b => b.wt
def Md.tick (m : Md) : Md := { m with hd := max 0 (m.hd - 1) }
def Bk.tick (b : Bk) : Bk := { b with md := b.md.tick }
def dial1 (p : List Bk × List Int) (n : Int) : List Bk × List Int := match p.1[n.toNat]? with
  | none => p
  | some b => if b.st = 0 then (p.1.set n.toNat { b with st := 1 }, p.2 ++ [n]) else p
def dial (bs : List Bk) (l : List Int) : List Bk × List Int := l.foldl dial1 (bs, [])
def PS.tickF (s : PS) : PS × List Int :=
  ({ s with W := s.W.tickF.1, bs := (dial (s.bs.map Bk.tick) s.W.tickF.2).1 }, (dial (s.bs.map Bk.tick) s.W.tickF.2).2)
/-- What every pool is. -/
structure Bk.Good (b : Bk) : Prop where
  ld : 0 ≤ b.ld
  ldb : b.ld ≤ 9223372036854775807
  may : 0 ≤ b.may ∧ b.may ≤ 9223372036854775807
  wt : 1 ≤ b.wt ∧ b.wt ≤ 1073741824
  hd : 0 ≤ b.md.hd ∧ b.md.hd ≤ 1073741824
  fail : b.md.fail ≠ 0
structure PS.Good (s : PS) : Prop where
  W : s.W.Good
  ids : ∀ t ∈ s.W.ts, 0 ≤ t.id ∧ t.id < s.bs.length
  bs : ∀ b ∈ s.bs, b.Good
  retry : 1 ≤ s.retry ∧ s.retry ≤ 1073741824
  most : 1 ≤ s.most ∧ s.most ≤ 1073741824
  len : s.bs.length ≤ 16
theorem dial_take {bs : List Bk} {l : List Int} {j : Nat} (hj : j < l.length) : dial bs (l.take (j + 1)) = dial1 (dial bs (l.take j)) l[j] := by
  unfold dial
  rw [List.take_succ_eq_append_getElem hj, List.foldl_append]; rfl
end Go.Proofs.Ytilkfcpdeeaifaa
