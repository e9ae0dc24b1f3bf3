/- append, as in SetApp, and where the row then lies; what the greeting keeps. -/
import Derived.Test.YtbekmflfmmcffaaGreatSetGreet
import Derived.Laws.NewBlocks
import Derived.Lib.SmallJoins
set_option linter.unusedVariables false
set_option linter.unusedSimpArgs false
set_option linter.unusedSectionVars false
namespace Go.Proofs.YtbekmflfmmcffaaGreat
open Go.RowKit
/-- The cells of a connection that New makes. -/
def connL (srv : Bool) (a b f li t q : Int) (gr : ByteArray) (inn join dec enc sets strs snd cred ones wv : Value) : List Value :=
  [.bool srv, .int .i64 a, .int .i64 b, .int .i64 f, .int .i64 li, .int .i64 t, .int .i64 q, .string gr, inn, join, dec, enc, sets, strs, snd, cred, ones, wv, .nilFunc, .bool false, .bool false, .bool false, .bool false, .int .i64 (-1), .int .i64 0]
def setupL (srv : Bool) (a b f li t q : Int) : List Value := [.bool srv, .int .i64 a, .int .i64 b, .int .i64 f, .int .i64 li, .int .i64 t, .int .i64 q]
/-- While it greets: the connection's block, its settings', the local copy of the setup, the list of settings, what is written. -/
structure GAt (w : World) (cb sb mb : Nat) (cs sl : List Value) (v : Value) (l : List (Int × Int)) (wp : Option Addr) (wn : Nat) (wx : World) : Prop where
  conn : BlockIs wx cb cs
  sets : BlockIs wx sb [.map (some mb), .slice none 0 0]
  loc : BlockIs wx w.heap.size sl
  row : OwnsS (w.heap.size + 1) wx v l
  out : WOut (w.heap.size + 1) wx wp wn
  ne : ∀ a, wp = some a → v.ownBlock ≠ some a.block
  kept : Keeps (fun k => k = cb ∨ k = sb) w wx
section
variable {w wx w2 : World} {cb sb mb wn : Nat} {cs sl : List Value} {v : Value} {wp : Option Addr} {l : List (Int × Int)}
theorem GAt.below (h : GAt w cb sb mb cs sl v l wp wn wx) (hb : Below wx.heap.size wx w2) : GAt w cb sb mb cs sl v l wp wn w2 :=
  ⟨h.conn.of_same (hb.block _ h.conn.lt), h.sets.of_same (hb.block _ h.sets.lt), h.loc.of_same (hb.block _ h.loc.lt), own_below h.row hb, h.out.below hb, h.ne, h.kept.trans (Keeps.of_below hb)⟩
theorem GAt.alloc (h : GAt w cb sb mb cs sl v l wp wn wx) (o : Obj) : GAt w cb sb mb cs sl v l wp wn (wx.alloc o) := h.below (below_al (Below.refl _ _) o)
theorem GAt.drew (h : GAt w cb sb mb cs sl v l wp wn wx) : GAt w cb sb mb cs sl v l wp wn wx.drew := h.below (Below.refl _ _).drew
/-- Behind an append to the list. -/
theorem GAt.grown (h : GAt w cb sb mb cs sl v l wp wn wx) (hcb : cb < w.heap.size) (hsb : sb < w.heap.size) (hg : wx.grownBy w2 v.ownBlock) {v2 : Value} {l2 : List (Int × Int)} (hr : OwnsS (w.heap.size + 1) w2 v2 l2)
    (hw : v2.ownBlock = v.ownBlock ∨ v2.ownBlock = some wx.heap.size) : GAt w cb sb mb cs sl v2 l2 wp wn w2 := by
  have hrow : ∀ g, v.ownBlock = some g → w.heap.size + 1 ≤ g ∧ g < wx.heap.size := World.ownsRow.lt h.row
  have hout := h.out.lt
  refine ⟨h.conn.of_same (hg.block _ h.conn.lt (fun e => by have := (hrow _ e.symm).1; omega)), h.sets.of_same (hg.block _ h.sets.lt (fun e => by have := (hrow _ e.symm).1; omega)), h.loc.of_same (hg.block _ h.loc.lt (fun e => by have := (hrow _ e.symm).1; omega)), hr, h.out.same (fun a ha => hg.block _ (hout a ha).2 (fun e => h.ne a ha e.symm)), fun a ha e => ?_, h.kept.grown hg (fun k e => .inr (by have := (hrow _ e).1; omega))⟩
  rcases hw with h1 | h1
  · rw [h1] at e; exact h.ne a ha e
  · rw [h1] at e
    have := (hout a ha).2
    injection e with e
    omega
theorem GAt.lit (h : GAt w cb sb mb cs sl (.slice none 0 0) [] none 0 wx) (x y : Int) : GAt w cb sb mb cs sl (.slice (some ⟨wx.heap.size, 0, none⟩) 1 1) [(x, y)] none 0 (wx.alloc (.cells #[.int .i64 x, .int .u32 y] 110)) := by
  have h2 := h.alloc (.cells #[.int .i64 x, .int .u32 y] 110)
  exact ⟨h2.conn, h2.sets, h2.loc, World.ownsRow_lit wx #[.int .i64 x, .int .u32 y] 1 (Nat.lt_of_lt_of_le (Nat.lt_succ_self _) h.loc.lt) (by decide) rfl, h2.out, fun a ha => (by cases ha), h2.kept⟩
theorem src_lit (o : Array Value) (T : TypeId) (sz m : Nat) (hs : o.size = m * sz) (hm : m ≤ maxLen) (h1 : ∀ u ∈ o.toList, u.oneCell' = true) : Src wx.heap.size sz (wx.alloc (.cells o T)) (some ⟨wx.heap.size, 0, none⟩) m o.toList :=
  Src.of_own (World.ownsRow_lit (e := T) (size := sz) wx o m (Nat.le_refl _) hm hs) h1
theorem GAt.setW (h : GAt w cb sb mb cs sl v l none 0 wx) (hcb : cb < w.heap.size) (hne : cb ≠ sb) (bs : Array Value) (T : TypeId) (fz : Nat × Nat) (n : Nat) (hn : bs.size = n) (h1 : ∀ u ∈ bs.toList, u.oneCell' = true) :
    GAt w cb sb mb (cs.set 17 (.slice (some ⟨wx.heap.size, 0, none⟩) n n)) sl v l (some ⟨wx.heap.size, 0, none⟩) n ((wx.setCell ⟨cb, 17, none⟩ (.slice (some ⟨wx.heap.size, 0, none⟩) n n)).alloc (.cells bs T fz)) := by
  rw [← World.setCell_alloc_past _ _ _ _ h.conn.lt]
  have h2 := h.alloc (.cells bs T fz)
  have hrow := World.ownsRow.lt h.row
  have hcx : cb < wx.heap.size := h.conn.lt
  refine ⟨h2.conn.set _ _, h2.sets.far (fun e => hne e.symm) _, h2.loc.far (fun e => by have : w.heap.size = cb := e; omega) _, own_same h2.row (fun g hg => Below.heap_setCell _ _ _ _ (fun e => by have h3 : g = cb := e; have := (hrow g hg).1; omega)), .inr ⟨_, bs, T, fz, rfl, Nat.lt_of_lt_of_le (Nat.lt_succ_self _) h.loc.lt, ?_, hn, h1⟩, ?_, h2.kept.set1 (.inl rfl) _ _⟩
  · exact (Below.heap_setCell _ _ _ _ (fun e => by have h3 : wx.heap.size = cb := e; omega)).trans (heap_alloc_new wx _)
  · intro a ha e
    injection ha with ha
    subst ha
    have := (hrow _ e).2
    exact Nat.lt_irrefl _ this
theorem GAt.locs {srv : Bool} {a b f li t q : Int} (h : GAt w cb sb mb cs (setupL srv a b f li t q) v l wp wn wx) : wx.cell? ⟨w.heap.size, 2, none⟩ = some (.int .i64 b) ∧ wx.cell? ⟨w.heap.size, 3, none⟩ = some (.int .i64 f) ∧ wx.cell? ⟨w.heap.size, 4, none⟩ = some (.int .i64 li) :=
  ⟨h.loc.cell 2, h.loc.cell 3, h.loc.cell 4⟩
theorem GAt.setC (h : GAt w cb sb mb cs sl v l wp wn wx) (hcb : cb < w.heap.size) (hne : cb ≠ sb) (i : Nat) (u : Value) : GAt w cb sb mb (cs.set i u) sl v l wp wn (wx.setCell ⟨cb, i, none⟩ u) := by
  have hrow := World.ownsRow.lt h.row
  refine ⟨h.conn.set _ _, h.sets.far (fun e => hne e.symm) _, h.loc.far (fun e => by have : w.heap.size = cb := e; omega) _, own_same h.row (fun g hg => Below.heap_setCell _ _ _ _ (fun e => by have h3 : g = cb := e; have := (hrow g hg).1; omega)), h.out.same (fun a ha => Below.heap_setCell _ _ _ _ (fun e => by have h3 : a.block = cb := e; have := (h.out.lt a ha).1; omega)), h.ne, h.kept.set1 (.inl rfl) _ _⟩
end
end Go.Proofs.YtbekmflfmmcffaaGreat
