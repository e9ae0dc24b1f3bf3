/- The walk of stream.New. -/
import Derived.Test.YtfhcafpocmapkaaStrWalk3
set_option linter.unusedVariables false
set_option linter.unusedSimpArgs false
set_option linter.unusedSectionVars false
namespace Go.Proofs.Ytfhcafpocmapkaa
open Go.RowKit

def PS.new (server : Bool) (most : Int) : PS := ⟨server, most, 1024, 0, 0, [], List.replicate 64 0, 0⟩
/-- What New makes, where it makes something. -/
def NewPost (server : Bool) (most : Int) (w : World) (e : Ending) (w' : World) : Prop :=
  ∃ b m, e = .returned (.tuple #[.pointer (some ⟨b, 0, none⟩), .int .i64 0]) ∧ StrAt w' b m (PS.new server most) ∧ w.heap.size ≤ b ∧ w.heap.size ≤ m ∧ Below w.heap.size w w'

set_option maxHeartbeats 1000000 in
set_option maxRecDepth 100000 in
theorem new_any (server : Bool) (most : Int) (w : World) (h0 : 0 ≤ most) (h1 : most ≤ 1024) : Calls Try.prog 5 #[.bool server, .int .i64 most] w (NewPost server most w) := by
  have hmm := @run_makeMap Try.prog
  go_enter Try.func5, Try.ntmps5
  go_wp2
  go_ret2
  exact ⟨_, _, rfl, ⟨(BlockIs.new' (w := w.alloc (.map #[] 0)) ((PS.new server most).cells w.heap.size) _ (by simp)), (MapIs.new w).alloc _, rfl⟩, by simp, by simp, below_al (below_al (Below.refl _ _) _) _⟩

set_option maxHeartbeats 1000000 in
set_option maxRecDepth 100000 in
theorem new_no (server : Bool) (most : Int) (w : World) (h : most < 0 ∨ 1024 < most) : Calls Try.prog 5 #[.bool server, .int .i64 most] w fun e w' => e = .returned (.tuple #[.pointer none, .int .i64 1]) ∧ w = w' := by
  rcases h with h | h
  · go_enter Try.func5, Try.ntmps5
    go_wp2
    go_ret2
    exact ⟨rfl, rfl⟩
  · have h' : ¬ most < 0 := by omega
    go_enter Try.func5, Try.ntmps5
    go_wp2
    go_ret2
    exact ⟨rfl, rfl⟩
end Go.Proofs.Ytfhcafpocmapkaa
