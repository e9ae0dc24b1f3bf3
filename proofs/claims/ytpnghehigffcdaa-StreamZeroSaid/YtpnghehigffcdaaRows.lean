/-
  No cell of these rows narrows 'for every input' (looked for: loops, veiled, ifaces, maps, wideKeys, modest, calm, conditions, laid).
  DERIVED. THE GIVEN ROWS OF THIS SEAT. 6 by the template 'for every input the law returns true; each argument reads behind the call as it read before'; 0 by the template 'total and deterministic' (their statements: YtpnghehigffcdaaTotals.lean).
  GIVEN WITH THE SEED: the statements are not yours to turn. If you find one false, say at which input.
  Laid BY PROGRAM, IN A SANDBOX (cutbox-rows.mjs): the forced cells as the released guide's own fill.sh prints them over the translation f97c8147e8ef3240… (all of the seat's roots in one cut). By AI agents, Wed Nov 11 2026. No macro, syntax, notation, axiom, sorry.
-/
import Derived.Test.YtpnghehigffcdaaChecked
import GoSem.Claim
import GoSem.ClaimJoined
import GoSem.ClaimMapViews
import Derived.JoinedTies
import Derived.KernelRfl
namespace Go.Proofs.Ytpnghehigffcdaa
/- THE CELL 'sum', in the pinned program and in every row, IS THE sha256 OF THE DUMP (.gsa) THAT YtpnghehigffcdaaProg.lean LOADS. Nothing in Lean hashes anything: it is a label: what it is worth is what the hold of that sum in a sandbox is worth. -/
noncomputable def Try.pinned : Pinned := { name := "ytpnghehigffcdaa", sum := "f97c8147e8ef3240ed7ba1f90e487d72cf861b9b75f13b4888d12de24f49339c", checked := Try.checked }
namespace Rows
def none {H : Type} : Left H := { results := [], args := [] }

/-- 'aqueductlaw10.StreamSteps': WHATEVER THE INPUT: true; the input reads as it did. -/
def streamStepsSpec : ChangeSpec := { name := "streamSteps", fn := fun _ => fun
  | [d1, d2] => { results := [.lit (.bool true)], args := [d1, d2] }
  | _ => none }
def streamStepsRow : OpenClaim := { program := "ytpnghehigffcdaa", sum := "f97c8147e8ef3240ed7ba1f90e487d72cf861b9b75f13b4888d12de24f49339c", func := "aqueduct/aqueductlaw10.StreamSteps", spec := "streamSteps", apart := false }
def StreamStepsSaid : Prop := streamStepsRow.holds Try.pinned (OpenSpec.ofChange streamStepsSpec)

/-- ITS FALSE NEIGHBOUR: 'it returns false'. Refute it at one input. -/
def streamStepsWrong : ChangeSpec := { name := "streamSteps", fn := fun _ => fun
  | [d1, d2] => { results := [.lit (.bool false)], args := [d1, d2] }
  | _ => none }
def StreamStepsWrongFalsely : Prop := streamStepsRow.holds Try.pinned (OpenSpec.ofChange streamStepsWrong)

/-- 'aqueductlaw10.StreamNumbers': WHATEVER THE INPUT: true; the input reads as it did. -/
def streamNumbersSpec : ChangeSpec := { name := "streamNumbers", fn := fun _ => fun
  | [d1, d2, d3] => { results := [.lit (.bool true)], args := [d1, d2, d3] }
  | _ => none }
def streamNumbersRow : OpenClaim := { program := "ytpnghehigffcdaa", sum := "f97c8147e8ef3240ed7ba1f90e487d72cf861b9b75f13b4888d12de24f49339c", func := "aqueduct/aqueductlaw10.StreamNumbers", spec := "streamNumbers", apart := false }
def StreamNumbersSaid : Prop := streamNumbersRow.holds Try.pinned (OpenSpec.ofChange streamNumbersSpec)

/-- ITS FALSE NEIGHBOUR: 'it returns false'. Refute it at one input. -/
def streamNumbersWrong : ChangeSpec := { name := "streamNumbers", fn := fun _ => fun
  | [d1, d2, d3] => { results := [.lit (.bool false)], args := [d1, d2, d3] }
  | _ => none }
def StreamNumbersWrongFalsely : Prop := streamNumbersRow.holds Try.pinned (OpenSpec.ofChange streamNumbersWrong)

/-- 'aqueductlaw10.StreamDrops': WHATEVER THE INPUT: true; the input reads as it did. -/
def streamDropsSpec : ChangeSpec := { name := "streamDrops", fn := fun _ => fun
  | [d1, d2] => { results := [.lit (.bool true)], args := [d1, d2] }
  | _ => none }
def streamDropsRow : OpenClaim := { program := "ytpnghehigffcdaa", sum := "f97c8147e8ef3240ed7ba1f90e487d72cf861b9b75f13b4888d12de24f49339c", func := "aqueduct/aqueductlaw10.StreamDrops", spec := "streamDrops", apart := false }
def StreamDropsSaid : Prop := streamDropsRow.holds Try.pinned (OpenSpec.ofChange streamDropsSpec)

/-- ITS FALSE NEIGHBOUR: 'it returns false'. Refute it at one input. -/
def streamDropsWrong : ChangeSpec := { name := "streamDrops", fn := fun _ => fun
  | [d1, d2] => { results := [.lit (.bool false)], args := [d1, d2] }
  | _ => none }
def StreamDropsWrongFalsely : Prop := streamDropsRow.holds Try.pinned (OpenSpec.ofChange streamDropsWrong)

/-- 'aqueductlaw10.StreamEnds': WHATEVER THE INPUT: true; the input reads as it did. -/
def streamEndsSpec : ChangeSpec := { name := "streamEnds", fn := fun _ => fun
  | [d1, d2, d3, d4] => { results := [.lit (.bool true)], args := [d1, d2, d3, d4] }
  | _ => none }
def streamEndsRow : OpenClaim := { program := "ytpnghehigffcdaa", sum := "f97c8147e8ef3240ed7ba1f90e487d72cf861b9b75f13b4888d12de24f49339c", func := "aqueduct/aqueductlaw10.StreamEnds", spec := "streamEnds", apart := false }
def StreamEndsSaid : Prop := streamEndsRow.holds Try.pinned (OpenSpec.ofChange streamEndsSpec)

/-- ITS FALSE NEIGHBOUR: 'it returns false'. Refute it at one input. -/
def streamEndsWrong : ChangeSpec := { name := "streamEnds", fn := fun _ => fun
  | [d1, d2, d3, d4] => { results := [.lit (.bool false)], args := [d1, d2, d3, d4] }
  | _ => none }
def StreamEndsWrongFalsely : Prop := streamEndsRow.holds Try.pinned (OpenSpec.ofChange streamEndsWrong)

/-- 'aqueductlaw10.StreamZero': WHATEVER THE INPUT: true; the input reads as it did. -/
def streamZeroSpec : ChangeSpec := { name := "streamZero", fn := fun _ => fun
  | [d1, d2] => { results := [.lit (.bool true)], args := [d1, d2] }
  | _ => none }
def streamZeroRow : OpenClaim := { program := "ytpnghehigffcdaa", sum := "f97c8147e8ef3240ed7ba1f90e487d72cf861b9b75f13b4888d12de24f49339c", func := "aqueduct/aqueductlaw10.StreamZero", spec := "streamZero", recurses := true, apart := false }
def StreamZeroSaid : Prop := streamZeroRow.holds Try.pinned (OpenSpec.ofChange streamZeroSpec)

/-- ITS FALSE NEIGHBOUR: 'it returns false'. Refute it at one input. -/
def streamZeroWrong : ChangeSpec := { name := "streamZero", fn := fun _ => fun
  | [d1, d2] => { results := [.lit (.bool false)], args := [d1, d2] }
  | _ => none }
def StreamZeroWrongFalsely : Prop := streamZeroRow.holds Try.pinned (OpenSpec.ofChange streamZeroWrong)

/-- 'aqueductlaw10.StreamPlays': WHATEVER THE INPUT: true; the input reads as it did. -/
def streamPlaysSpec : ChangeSpec := { name := "streamPlays", fn := fun _ => fun
  | [d1, d2, d3] => { results := [.lit (.bool true)], args := [d1, d2, d3] }
  | _ => none }
def streamPlaysRow : OpenClaim := { program := "ytpnghehigffcdaa", sum := "f97c8147e8ef3240ed7ba1f90e487d72cf861b9b75f13b4888d12de24f49339c", func := "aqueduct/aqueductlaw10.StreamPlays", spec := "streamPlays", recurses := true, apart := false }
def StreamPlaysSaid : Prop := streamPlaysRow.holds Try.pinned (OpenSpec.ofChange streamPlaysSpec)

/-- ITS FALSE NEIGHBOUR: 'it returns false'. Refute it at one input. -/
def streamPlaysWrong : ChangeSpec := { name := "streamPlays", fn := fun _ => fun
  | [d1, d2, d3] => { results := [.lit (.bool false)], args := [d1, d2, d3] }
  | _ => none }
def StreamPlaysWrongFalsely : Prop := streamPlaysRow.holds Try.pinned (OpenSpec.ofChange streamPlaysWrong)

/- THE SECOND FORM. 'bulk': how many values and letters a reading holds, each counted each time it is reached (what is shared counts as often as it is met; a slice's spare places count too). A statement '..UptoSaid' is the law's where the arguments, and the package variables that the reading takes, are together of bulk at most 1048576: NARROWER than '..Said'. Prove '..Said' where nothing that the law and all that it calls make is longer than what came in: it says more and counts as full. Else prove '..UptoSaid'. A law counts once. -/
mutual
def uptoBulk {H : Type} : DataW H → Nat
  | .lit (.string bytes) => bytes.length + 1
  | .lit _ => 1
  | .nil => 1
  | .ptr d => uptoBulk d + 1
  | .slice elems spare => uptoBulkAll elems + uptoBulkAll spare + 1
  | .agg parts => uptoBulkAll parts + 1
  | .iface _ d => uptoBulk d + 1
  | .map entries => uptoBulkEntries entries + 1
  | .held _ => 1
def uptoBulkAll {H : Type} : List (DataW H) → Nat
  | [] => 0
  | d :: r => uptoBulk d + uptoBulkAll r
def uptoBulkEntries {H : Type} : List (Lit × DataW H) → Nat
  | [] => 0
  | x :: r => uptoBulkEntry x + uptoBulkEntries r
def uptoBulkEntry {H : Type} : Lit × DataW H → Nat
  | (.string bytes, d) => bytes.length + uptoBulk d + 1
  | (_, d) => uptoBulk d + 1
 end
def uptoSmall : (H : Type) → List (DataW H) → Bool := fun _ ds => decide (uptoBulkAll ds ≤ 1048576)
def OpenSpec.upto (s : _root_.Go.ChangeSpec) : _root_.Go.OpenSpec := { _root_.Go.OpenSpec.ofChange s with cond := some uptoSmall }

/-- 'aqueductlaw10.StreamSteps', WHERE WHAT IT READS IS OF BULK AT MOST 1048576: true; the input reads as it did. -/
def streamStepsUptoRow : OpenClaim := { program := "ytpnghehigffcdaa", sum := "f97c8147e8ef3240ed7ba1f90e487d72cf861b9b75f13b4888d12de24f49339c", func := "aqueduct/aqueductlaw10.StreamSteps", spec := "streamSteps", apart := false, narrowed := true }
def StreamStepsUptoSaid : Prop := streamStepsUptoRow.holds Try.pinned (OpenSpec.upto streamStepsSpec)

/-- 'aqueductlaw10.StreamNumbers', WHERE WHAT IT READS IS OF BULK AT MOST 1048576: true; the input reads as it did. -/
def streamNumbersUptoRow : OpenClaim := { program := "ytpnghehigffcdaa", sum := "f97c8147e8ef3240ed7ba1f90e487d72cf861b9b75f13b4888d12de24f49339c", func := "aqueduct/aqueductlaw10.StreamNumbers", spec := "streamNumbers", apart := false, narrowed := true }
def StreamNumbersUptoSaid : Prop := streamNumbersUptoRow.holds Try.pinned (OpenSpec.upto streamNumbersSpec)

/-- 'aqueductlaw10.StreamDrops', WHERE WHAT IT READS IS OF BULK AT MOST 1048576: true; the input reads as it did. -/
def streamDropsUptoRow : OpenClaim := { program := "ytpnghehigffcdaa", sum := "f97c8147e8ef3240ed7ba1f90e487d72cf861b9b75f13b4888d12de24f49339c", func := "aqueduct/aqueductlaw10.StreamDrops", spec := "streamDrops", apart := false, narrowed := true }
def StreamDropsUptoSaid : Prop := streamDropsUptoRow.holds Try.pinned (OpenSpec.upto streamDropsSpec)

/-- 'aqueductlaw10.StreamEnds', WHERE WHAT IT READS IS OF BULK AT MOST 1048576: true; the input reads as it did. -/
def streamEndsUptoRow : OpenClaim := { program := "ytpnghehigffcdaa", sum := "f97c8147e8ef3240ed7ba1f90e487d72cf861b9b75f13b4888d12de24f49339c", func := "aqueduct/aqueductlaw10.StreamEnds", spec := "streamEnds", apart := false, narrowed := true }
def StreamEndsUptoSaid : Prop := streamEndsUptoRow.holds Try.pinned (OpenSpec.upto streamEndsSpec)

/-- 'aqueductlaw10.StreamZero', WHERE WHAT IT READS IS OF BULK AT MOST 1048576: true; the input reads as it did. -/
def streamZeroUptoRow : OpenClaim := { program := "ytpnghehigffcdaa", sum := "f97c8147e8ef3240ed7ba1f90e487d72cf861b9b75f13b4888d12de24f49339c", func := "aqueduct/aqueductlaw10.StreamZero", spec := "streamZero", recurses := true, apart := false, narrowed := true }
def StreamZeroUptoSaid : Prop := streamZeroUptoRow.holds Try.pinned (OpenSpec.upto streamZeroSpec)

/-- 'aqueductlaw10.StreamPlays', WHERE WHAT IT READS IS OF BULK AT MOST 1048576: true; the input reads as it did. -/
def streamPlaysUptoRow : OpenClaim := { program := "ytpnghehigffcdaa", sum := "f97c8147e8ef3240ed7ba1f90e487d72cf861b9b75f13b4888d12de24f49339c", func := "aqueduct/aqueductlaw10.StreamPlays", spec := "streamPlays", recurses := true, apart := false, narrowed := true }
def StreamPlaysUptoSaid : Prop := streamPlaysUptoRow.holds Try.pinned (OpenSpec.upto streamPlaysSpec)

end Rows
end Go.Proofs.Ytpnghehigffcdaa
