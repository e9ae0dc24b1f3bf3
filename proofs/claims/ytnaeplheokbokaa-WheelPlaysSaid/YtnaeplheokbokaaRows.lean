/-
  No cell of these rows narrows 'for every input' (looked for: loops, veiled, ifaces, maps, wideKeys, modest, calm, conditions, laid).
  DERIVED. THE GIVEN ROWS OF THIS SEAT. 6 by the template 'for every input the law returns true; each argument reads behind the call as it read before'; 0 by the template 'total and deterministic' (their statements: YtnaeplheokbokaaTotals.lean).
  GIVEN WITH THE SEED: the statements are not yours to turn. If you find one false, say at which input.
  Laid BY PROGRAM, IN A SANDBOX (cutbox-rows.mjs): the forced cells as the released guide's own fill.sh prints them over the translation e7968479dc1ed566… (all of the seat's roots in one cut). By AI agents, Wed Nov 11 2026. No macro, syntax, notation, axiom, sorry.
-/
import Derived.Test.YtnaeplheokbokaaChecked
import GoSem.Claim
import GoSem.ClaimJoined
import GoSem.ClaimMapViews
import Derived.JoinedTies
import Derived.KernelRfl
namespace Go.Proofs.Ytnaeplheokbokaa
/- THE CELL 'sum', in the pinned program and in every row, IS THE sha256 OF THE DUMP (.gsa) THAT YtnaeplheokbokaaProg.lean LOADS. Nothing in Lean hashes anything: it is a label: what it is worth is what the hold of that sum in a sandbox is worth. -/
noncomputable def Try.pinned : Pinned := { name := "ytnaeplheokbokaa", sum := "e7968479dc1ed56639399c45dfbe56870d021bddd1ee3ab0b054ece27c3246cb", checked := Try.checked }
namespace Rows
def none {H : Type} : Left H := { results := [], args := [] }

/-- 'aqueductlaw16.WheelFull': WHATEVER THE INPUT: true; the input reads as it did. -/
def wheelFullSpec : ChangeSpec := { name := "wheelFull", fn := fun _ => fun
  | [d] => { results := [.lit (.bool true)], args := [d] }
  | _ => none }
def wheelFullRow : OpenClaim := { program := "ytnaeplheokbokaa", sum := "e7968479dc1ed56639399c45dfbe56870d021bddd1ee3ab0b054ece27c3246cb", func := "aqueduct/aqueductlaw16.WheelFull", spec := "wheelFull", apart := false }
def WheelFullSaid : Prop := wheelFullRow.holds Try.pinned (OpenSpec.ofChange wheelFullSpec)

/-- ITS FALSE NEIGHBOUR: 'it returns false'. Refute it at one input. -/
def wheelFullWrong : ChangeSpec := { name := "wheelFull", fn := fun _ => fun
  | [d] => { results := [.lit (.bool false)], args := [d] }
  | _ => none }
def WheelFullWrongFalsely : Prop := wheelFullRow.holds Try.pinned (OpenSpec.ofChange wheelFullWrong)

/-- 'aqueductlaw16.WheelOrder': WHATEVER THE INPUT: true; the input reads as it did. -/
def wheelOrderSpec : ChangeSpec := { name := "wheelOrder", fn := fun _ => fun
  | [d] => { results := [.lit (.bool true)], args := [d] }
  | _ => none }
def wheelOrderRow : OpenClaim := { program := "ytnaeplheokbokaa", sum := "e7968479dc1ed56639399c45dfbe56870d021bddd1ee3ab0b054ece27c3246cb", func := "aqueduct/aqueductlaw16.WheelOrder", spec := "wheelOrder", unfollowed := true, recurses := true, apart := false }
def WheelOrderSaid : Prop := wheelOrderRow.holds Try.pinned (OpenSpec.ofChange wheelOrderSpec)

/-- ITS FALSE NEIGHBOUR: 'it returns false'. Refute it at one input. -/
def wheelOrderWrong : ChangeSpec := { name := "wheelOrder", fn := fun _ => fun
  | [d] => { results := [.lit (.bool false)], args := [d] }
  | _ => none }
def WheelOrderWrongFalsely : Prop := wheelOrderRow.holds Try.pinned (OpenSpec.ofChange wheelOrderWrong)

/-- 'aqueductlaw16.WheelOnce': WHATEVER THE INPUT: true; the input reads as it did. -/
def wheelOnceSpec : ChangeSpec := { name := "wheelOnce", fn := fun _ => fun
  | [d1, d2] => { results := [.lit (.bool true)], args := [d1, d2] }
  | _ => none }
def wheelOnceRow : OpenClaim := { program := "ytnaeplheokbokaa", sum := "e7968479dc1ed56639399c45dfbe56870d021bddd1ee3ab0b054ece27c3246cb", func := "aqueduct/aqueductlaw16.WheelOnce", spec := "wheelOnce", unfollowed := true, recurses := true, apart := false }
def WheelOnceSaid : Prop := wheelOnceRow.holds Try.pinned (OpenSpec.ofChange wheelOnceSpec)

/-- ITS FALSE NEIGHBOUR: 'it returns false'. Refute it at one input. -/
def wheelOnceWrong : ChangeSpec := { name := "wheelOnce", fn := fun _ => fun
  | [d1, d2] => { results := [.lit (.bool false)], args := [d1, d2] }
  | _ => none }
def WheelOnceWrongFalsely : Prop := wheelOnceRow.holds Try.pinned (OpenSpec.ofChange wheelOnceWrong)

/-- 'aqueductlaw16.WheelPlays': WHATEVER THE INPUT: true; the input reads as it did. -/
def wheelPlaysSpec : ChangeSpec := { name := "wheelPlays", fn := fun _ => fun
  | [d] => { results := [.lit (.bool true)], args := [d] }
  | _ => none }
def wheelPlaysRow : OpenClaim := { program := "ytnaeplheokbokaa", sum := "e7968479dc1ed56639399c45dfbe56870d021bddd1ee3ab0b054ece27c3246cb", func := "aqueduct/aqueductlaw16.WheelPlays", spec := "wheelPlays", unfollowed := true, recurses := true, apart := false }
def WheelPlaysSaid : Prop := wheelPlaysRow.holds Try.pinned (OpenSpec.ofChange wheelPlaysSpec)

/-- ITS FALSE NEIGHBOUR: 'it returns false'. Refute it at one input. -/
def wheelPlaysWrong : ChangeSpec := { name := "wheelPlays", fn := fun _ => fun
  | [d] => { results := [.lit (.bool false)], args := [d] }
  | _ => none }
def WheelPlaysWrongFalsely : Prop := wheelPlaysRow.holds Try.pinned (OpenSpec.ofChange wheelPlaysWrong)

/-- 'aqueductlaw19.PoolWaits': WHATEVER THE INPUT: true; the input reads as it did. -/
def poolWaitsSpec : ChangeSpec := { name := "poolWaits", fn := fun _ => fun
  | [d1, d2, d3, d4] => { results := [.lit (.bool true)], args := [d1, d2, d3, d4] }
  | _ => none }
def poolWaitsRow : OpenClaim := { program := "ytnaeplheokbokaa", sum := "e7968479dc1ed56639399c45dfbe56870d021bddd1ee3ab0b054ece27c3246cb", func := "aqueduct/aqueductlaw19.PoolWaits", spec := "poolWaits", unfollowed := true, recurses := true, apart := false }
def PoolWaitsSaid : Prop := poolWaitsRow.holds Try.pinned (OpenSpec.ofChange poolWaitsSpec)

/-- ITS FALSE NEIGHBOUR: 'it returns false'. Refute it at one input. -/
def poolWaitsWrong : ChangeSpec := { name := "poolWaits", fn := fun _ => fun
  | [d1, d2, d3, d4] => { results := [.lit (.bool false)], args := [d1, d2, d3, d4] }
  | _ => none }
def PoolWaitsWrongFalsely : Prop := poolWaitsRow.holds Try.pinned (OpenSpec.ofChange poolWaitsWrong)

/-- 'aqueductlaw19.PoolDrains': WHATEVER THE INPUT: true; the input reads as it did. -/
def poolDrainsSpec : ChangeSpec := { name := "poolDrains", fn := fun _ => fun
  | [d] => { results := [.lit (.bool true)], args := [d] }
  | _ => none }
def poolDrainsRow : OpenClaim := { program := "ytnaeplheokbokaa", sum := "e7968479dc1ed56639399c45dfbe56870d021bddd1ee3ab0b054ece27c3246cb", func := "aqueduct/aqueductlaw19.PoolDrains", spec := "poolDrains", unfollowed := true, recurses := true, apart := false }
def PoolDrainsSaid : Prop := poolDrainsRow.holds Try.pinned (OpenSpec.ofChange poolDrainsSpec)

/-- ITS FALSE NEIGHBOUR: 'it returns false'. Refute it at one input. -/
def poolDrainsWrong : ChangeSpec := { name := "poolDrains", fn := fun _ => fun
  | [d] => { results := [.lit (.bool false)], args := [d] }
  | _ => none }
def PoolDrainsWrongFalsely : Prop := poolDrainsRow.holds Try.pinned (OpenSpec.ofChange poolDrainsWrong)

/- THE SECOND FORM. 'bulk': how many values and letters a reading holds, each counted each time it is reached (what is shared counts as often as it is met; a slice's spare places count too). A statement '..UptoSaid' is the law's where the arguments, and the package variables that the reading takes, are together of bulk at most 1048576: NARROWER than '..Said'. Prove '..Said' where nothing that the law and all that it calls make is longer than what came in: it says more and counts as full. Else prove '..UptoSaid'. A law counts once. -/
mutual
def uptoBulk {H : Type} : DataW H → Nat
  | .lit (.string bytes) => bytes.length + 1
  | .lit _ => 1
  | .nil => 1
  | .ptr d => uptoBulk d + 1
  | .slice elems spare => uptoBulkAll elems + uptoBulkAll spare + 1
  | .agg parts => uptoBulkAll parts + 1
  | .iface _ d => uptoBulk d + 1
  | .map entries => uptoBulkEntries entries + 1
  | .held _ => 1
def uptoBulkAll {H : Type} : List (DataW H) → Nat
  | [] => 0
  | d :: r => uptoBulk d + uptoBulkAll r
def uptoBulkEntries {H : Type} : List (Lit × DataW H) → Nat
  | [] => 0
  | x :: r => uptoBulkEntry x + uptoBulkEntries r
def uptoBulkEntry {H : Type} : Lit × DataW H → Nat
  | (.string bytes, d) => bytes.length + uptoBulk d + 1
  | (_, d) => uptoBulk d + 1
 end
def uptoSmall : (H : Type) → List (DataW H) → Bool := fun _ ds => decide (uptoBulkAll ds ≤ 1048576)
def OpenSpec.upto (s : _root_.Go.ChangeSpec) : _root_.Go.OpenSpec := { _root_.Go.OpenSpec.ofChange s with cond := some uptoSmall }

/-- 'aqueductlaw16.WheelFull', WHERE WHAT IT READS IS OF BULK AT MOST 1048576: true; the input reads as it did. -/
def wheelFullUptoRow : OpenClaim := { program := "ytnaeplheokbokaa", sum := "e7968479dc1ed56639399c45dfbe56870d021bddd1ee3ab0b054ece27c3246cb", func := "aqueduct/aqueductlaw16.WheelFull", spec := "wheelFull", apart := false, narrowed := true }
def WheelFullUptoSaid : Prop := wheelFullUptoRow.holds Try.pinned (OpenSpec.upto wheelFullSpec)

/-- 'aqueductlaw16.WheelOrder', WHERE WHAT IT READS IS OF BULK AT MOST 1048576: true; the input reads as it did. -/
def wheelOrderUptoRow : OpenClaim := { program := "ytnaeplheokbokaa", sum := "e7968479dc1ed56639399c45dfbe56870d021bddd1ee3ab0b054ece27c3246cb", func := "aqueduct/aqueductlaw16.WheelOrder", spec := "wheelOrder", unfollowed := true, recurses := true, apart := false, narrowed := true }
def WheelOrderUptoSaid : Prop := wheelOrderUptoRow.holds Try.pinned (OpenSpec.upto wheelOrderSpec)

/-- 'aqueductlaw16.WheelOnce', WHERE WHAT IT READS IS OF BULK AT MOST 1048576: true; the input reads as it did. -/
def wheelOnceUptoRow : OpenClaim := { program := "ytnaeplheokbokaa", sum := "e7968479dc1ed56639399c45dfbe56870d021bddd1ee3ab0b054ece27c3246cb", func := "aqueduct/aqueductlaw16.WheelOnce", spec := "wheelOnce", unfollowed := true, recurses := true, apart := false, narrowed := true }
def WheelOnceUptoSaid : Prop := wheelOnceUptoRow.holds Try.pinned (OpenSpec.upto wheelOnceSpec)

/-- 'aqueductlaw16.WheelPlays', WHERE WHAT IT READS IS OF BULK AT MOST 1048576: true; the input reads as it did. -/
def wheelPlaysUptoRow : OpenClaim := { program := "ytnaeplheokbokaa", sum := "e7968479dc1ed56639399c45dfbe56870d021bddd1ee3ab0b054ece27c3246cb", func := "aqueduct/aqueductlaw16.WheelPlays", spec := "wheelPlays", unfollowed := true, recurses := true, apart := false, narrowed := true }
def WheelPlaysUptoSaid : Prop := wheelPlaysUptoRow.holds Try.pinned (OpenSpec.upto wheelPlaysSpec)

/-- 'aqueductlaw19.PoolWaits', WHERE WHAT IT READS IS OF BULK AT MOST 1048576: true; the input reads as it did. -/
def poolWaitsUptoRow : OpenClaim := { program := "ytnaeplheokbokaa", sum := "e7968479dc1ed56639399c45dfbe56870d021bddd1ee3ab0b054ece27c3246cb", func := "aqueduct/aqueductlaw19.PoolWaits", spec := "poolWaits", unfollowed := true, recurses := true, apart := false, narrowed := true }
def PoolWaitsUptoSaid : Prop := poolWaitsUptoRow.holds Try.pinned (OpenSpec.upto poolWaitsSpec)

/-- 'aqueductlaw19.PoolDrains', WHERE WHAT IT READS IS OF BULK AT MOST 1048576: true; the input reads as it did. -/
def poolDrainsUptoRow : OpenClaim := { program := "ytnaeplheokbokaa", sum := "e7968479dc1ed56639399c45dfbe56870d021bddd1ee3ab0b054ece27c3246cb", func := "aqueduct/aqueductlaw19.PoolDrains", spec := "poolDrains", unfollowed := true, recurses := true, apart := false, narrowed := true }
def PoolDrainsUptoSaid : Prop := poolDrainsUptoRow.holds Try.pinned (OpenSpec.upto poolDrainsSpec)

end Rows
end Go.Proofs.Ytnaeplheokbokaa
