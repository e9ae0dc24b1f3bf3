/-
  No cell of these rows narrows 'for every input' (looked for: loops, veiled, ifaces, maps, wideKeys, modest, calm, conditions, laid).
  DERIVED. THE GIVEN ROWS OF THIS SEAT. 4 by the template 'for every input the law returns true; each argument reads behind the call as it read before'; 0 by the template 'total and deterministic' (their statements: YtilkfcpdeeaifaaTotals.lean).
  GIVEN WITH THE SEED: the statements are not yours to turn. If you find one false, say at which input.
  Laid BY PROGRAM, IN A SANDBOX (cutbox-rows.mjs): the forced cells as the released guide's own fill.sh prints them over the translation 461adb5c6e7967ad… (all of the seat's roots in one cut). By AI agents, Wed Nov 11 2026. No macro, syntax, notation, axiom, sorry.
-/
import Derived.Test.YtilkfcpdeeaifaaChecked
import GoSem.Claim
import GoSem.ClaimJoined
import GoSem.ClaimMapViews
import Derived.JoinedTies
import Derived.KernelRfl
namespace Go.Proofs.Ytilkfcpdeeaifaa
/- THE CELL 'sum', in the pinned program and in every row, IS THE sha256 OF THE DUMP (.gsa) THAT YtilkfcpdeeaifaaProg.lean LOADS. Nothing in Lean hashes anything: it is a label: what it is worth is what the hold of that sum in a sandbox is worth. -/
noncomputable def Try.pinned : Pinned := { name := "ytilkfcpdeeaifaa", sum := "461adb5c6e7967ad692110c31b6c1d352b82eb789b64597d6ec2ecda41688366", checked := Try.checked }
namespace Rows
def none {H : Type} : Left H := { results := [], args := [] }

/-- 'aqueductlaw19.PoolWaits': WHATEVER THE INPUT: true; the input reads as it did. -/
def poolWaitsSpec : ChangeSpec := { name := "poolWaits", fn := fun _ => fun
  | [d1, d2, d3, d4] => { results := [.lit (.bool true)], args := [d1, d2, d3, d4] }
  | _ => none }
def poolWaitsRow : OpenClaim := { program := "ytilkfcpdeeaifaa", sum := "461adb5c6e7967ad692110c31b6c1d352b82eb789b64597d6ec2ecda41688366", func := "aqueduct/aqueductlaw19.PoolWaits", spec := "poolWaits", unfollowed := true, recurses := true, apart := false }
def PoolWaitsSaid : Prop := poolWaitsRow.holds Try.pinned (OpenSpec.ofChange poolWaitsSpec)

/-- ITS FALSE NEIGHBOUR: 'it returns false'. Refute it at one input. -/
def poolWaitsWrong : ChangeSpec := { name := "poolWaits", fn := fun _ => fun
  | [d1, d2, d3, d4] => { results := [.lit (.bool false)], args := [d1, d2, d3, d4] }
  | _ => none }
def PoolWaitsWrongFalsely : Prop := poolWaitsRow.holds Try.pinned (OpenSpec.ofChange poolWaitsWrong)

/-- 'aqueductlaw19.PoolDrains': WHATEVER THE INPUT: true; the input reads as it did. -/
def poolDrainsSpec : ChangeSpec := { name := "poolDrains", fn := fun _ => fun
  | [d] => { results := [.lit (.bool true)], args := [d] }
  | _ => none }
def poolDrainsRow : OpenClaim := { program := "ytilkfcpdeeaifaa", sum := "461adb5c6e7967ad692110c31b6c1d352b82eb789b64597d6ec2ecda41688366", func := "aqueduct/aqueductlaw19.PoolDrains", spec := "poolDrains", unfollowed := true, recurses := true, apart := false }
def PoolDrainsSaid : Prop := poolDrainsRow.holds Try.pinned (OpenSpec.ofChange poolDrainsSpec)

/-- ITS FALSE NEIGHBOUR: 'it returns false'. Refute it at one input. -/
def poolDrainsWrong : ChangeSpec := { name := "poolDrains", fn := fun _ => fun
  | [d] => { results := [.lit (.bool false)], args := [d] }
  | _ => none }
def PoolDrainsWrongFalsely : Prop := poolDrainsRow.holds Try.pinned (OpenSpec.ofChange poolDrainsWrong)

/-- 'aqueductlaw19.PoolLoads': WHATEVER THE INPUT: true; the input reads as it did. -/
def poolLoadsSpec : ChangeSpec := { name := "poolLoads", fn := fun _ => fun
  | [d] => { results := [.lit (.bool true)], args := [d] }
  | _ => none }
def poolLoadsRow : OpenClaim := { program := "ytilkfcpdeeaifaa", sum := "461adb5c6e7967ad692110c31b6c1d352b82eb789b64597d6ec2ecda41688366", func := "aqueduct/aqueductlaw19.PoolLoads", spec := "poolLoads", unfollowed := true, recurses := true, apart := false }
def PoolLoadsSaid : Prop := poolLoadsRow.holds Try.pinned (OpenSpec.ofChange poolLoadsSpec)

/-- ITS FALSE NEIGHBOUR: 'it returns false'. Refute it at one input. -/
def poolLoadsWrong : ChangeSpec := { name := "poolLoads", fn := fun _ => fun
  | [d] => { results := [.lit (.bool false)], args := [d] }
  | _ => none }
def PoolLoadsWrongFalsely : Prop := poolLoadsRow.holds Try.pinned (OpenSpec.ofChange poolLoadsWrong)

/-- 'aqueductlaw19.PoolPlays': WHATEVER THE INPUT: true; the input reads as it did. -/
def poolPlaysSpec : ChangeSpec := { name := "poolPlays", fn := fun _ => fun
  | [d1, d2, d3, d4, d5] => { results := [.lit (.bool true)], args := [d1, d2, d3, d4, d5] }
  | _ => none }
def poolPlaysRow : OpenClaim := { program := "ytilkfcpdeeaifaa", sum := "461adb5c6e7967ad692110c31b6c1d352b82eb789b64597d6ec2ecda41688366", func := "aqueduct/aqueductlaw19.PoolPlays", spec := "poolPlays", unfollowed := true, recurses := true, apart := false }
def PoolPlaysSaid : Prop := poolPlaysRow.holds Try.pinned (OpenSpec.ofChange poolPlaysSpec)

/-- ITS FALSE NEIGHBOUR: 'it returns false'. Refute it at one input. -/
def poolPlaysWrong : ChangeSpec := { name := "poolPlays", fn := fun _ => fun
  | [d1, d2, d3, d4, d5] => { results := [.lit (.bool false)], args := [d1, d2, d3, d4, d5] }
  | _ => none }
def PoolPlaysWrongFalsely : Prop := poolPlaysRow.holds Try.pinned (OpenSpec.ofChange poolPlaysWrong)

/- THE SECOND FORM. 'bulk': how many values and letters a reading holds, each counted each time it is reached (what is shared counts as often as it is met; a slice's spare places count too). A statement '..UptoSaid' is the law's where the arguments, and the package variables that the reading takes, are together of bulk at most 1048576: NARROWER than '..Said'. Prove '..Said' where nothing that the law and all that it calls make is longer than what came in: it says more and counts as full. Else prove '..UptoSaid'. A law counts once. -/
mutual
def uptoBulk {H : Type} : DataW H → Nat
  | .lit (.string bytes) => bytes.length + 1
  | .lit _ => 1
  | .nil => 1
  | .ptr d => uptoBulk d + 1
  | .slice elems spare => uptoBulkAll elems + uptoBulkAll spare + 1
  | .agg parts => uptoBulkAll parts + 1
  | .iface _ d => uptoBulk d + 1
  | .map entries => uptoBulkEntries entries + 1
  | .held _ => 1
def uptoBulkAll {H : Type} : List (DataW H) → Nat
  | [] => 0
  | d :: r => uptoBulk d + uptoBulkAll r
def uptoBulkEntries {H : Type} : List (Lit × DataW H) → Nat
  | [] => 0
  | x :: r => uptoBulkEntry x + uptoBulkEntries r
def uptoBulkEntry {H : Type} : Lit × DataW H → Nat
  | (.string bytes, d) => bytes.length + uptoBulk d + 1
  | (_, d) => uptoBulk d + 1
 end
def uptoSmall : (H : Type) → List (DataW H) → Bool := fun _ ds => decide (uptoBulkAll ds ≤ 1048576)
def OpenSpec.upto (s : _root_.Go.ChangeSpec) : _root_.Go.OpenSpec := { _root_.Go.OpenSpec.ofChange s with cond := some uptoSmall }

/-- 'aqueductlaw19.PoolWaits', WHERE WHAT IT READS IS OF BULK AT MOST 1048576: true; the input reads as it did. -/
def poolWaitsUptoRow : OpenClaim := { program := "ytilkfcpdeeaifaa", sum := "461adb5c6e7967ad692110c31b6c1d352b82eb789b64597d6ec2ecda41688366", func := "aqueduct/aqueductlaw19.PoolWaits", spec := "poolWaits", unfollowed := true, recurses := true, apart := false, narrowed := true }
def PoolWaitsUptoSaid : Prop := poolWaitsUptoRow.holds Try.pinned (OpenSpec.upto poolWaitsSpec)

/-- 'aqueductlaw19.PoolDrains', WHERE WHAT IT READS IS OF BULK AT MOST 1048576: true; the input reads as it did. -/
def poolDrainsUptoRow : OpenClaim := { program := "ytilkfcpdeeaifaa", sum := "461adb5c6e7967ad692110c31b6c1d352b82eb789b64597d6ec2ecda41688366", func := "aqueduct/aqueductlaw19.PoolDrains", spec := "poolDrains", unfollowed := true, recurses := true, apart := false, narrowed := true }
def PoolDrainsUptoSaid : Prop := poolDrainsUptoRow.holds Try.pinned (OpenSpec.upto poolDrainsSpec)

/-- 'aqueductlaw19.PoolLoads', WHERE WHAT IT READS IS OF BULK AT MOST 1048576: true; the input reads as it did. -/
def poolLoadsUptoRow : OpenClaim := { program := "ytilkfcpdeeaifaa", sum := "461adb5c6e7967ad692110c31b6c1d352b82eb789b64597d6ec2ecda41688366", func := "aqueduct/aqueductlaw19.PoolLoads", spec := "poolLoads", unfollowed := true, recurses := true, apart := false, narrowed := true }
def PoolLoadsUptoSaid : Prop := poolLoadsUptoRow.holds Try.pinned (OpenSpec.upto poolLoadsSpec)

/-- 'aqueductlaw19.PoolPlays', WHERE WHAT IT READS IS OF BULK AT MOST 1048576: true; the input reads as it did. -/
def poolPlaysUptoRow : OpenClaim := { program := "ytilkfcpdeeaifaa", sum := "461adb5c6e7967ad692110c31b6c1d352b82eb789b64597d6ec2ecda41688366", func := "aqueduct/aqueductlaw19.PoolPlays", spec := "poolPlays", unfollowed := true, recurses := true, apart := false, narrowed := true }
def PoolPlaysUptoSaid : Prop := poolPlaysUptoRow.holds Try.pinned (OpenSpec.upto poolPlaysSpec)

end Rows
end Go.Proofs.Ytilkfcpdeeaifaa
