/- The walks of rewrite.Trailers and of the reference's, and of the law's headers. -/
import Derived.Test.YtfljibjjpgdmhaaGreatDoorMsgEach
import Derived.Laws.StructEq
import Derived.Laws.AppendOwnNone
set_option linter.unusedVariables false
set_option linter.unusedSimpArgs false
set_option linter.unusedSectionVars false
namespace Go.Proofs.YtfljibjjpgdmhaaGreatDoor
open Go.RowKit
theorem ihdr : (Tryz.prog.info? 35).map (fun i => (i.zero, i.size, i.bytes)) = some (some (.agg #[.string emptyB, .string emptyB, .bool false]), 3, 40) := by kernel_rfl
def hflat (l : List Hdr) : List Value := l.flatMap Hdr.cells
theorem hflat_len (l : List Hdr) : (hflat l).length = l.length * 3 := by
  unfold hflat
  induction l with
  | nil => rfl
  | cons t l ih => rw [List.flatMap_cons, List.length_append, ih]; simp [Hdr.cells]; omega
theorem hflat_get : ∀ (l : List Hdr) (i c : Nat), c < 3 → (hflat l)[i * 3 + c]? = (l[i]?).bind (fun t => (t.cells)[c]?)
  | [], _, _, _ => by simp [hflat]
  | t :: l, 0, c, hc => by
    unfold hflat
    rw [List.flatMap_cons, List.getElem?_append_left (by simp [Hdr.cells]; omega)]; simp
  | t :: l, i + 1, c, hc => by
    have ih := hflat_get l i c hc
    unfold hflat at ih ⊢
    rw [List.flatMap_cons, List.getElem?_append_right (by simp [Hdr.cells]; omega)]
    rw [show (i + 1) * 3 + c - (t.cells).length = i * 3 + c by simp [Hdr.cells]; omega, ih]
    simp
theorem add_add (a : Addr) (i j : Nat) : (a.add i).add j = a.add (i + j) := by
  obtain ⟨g, o, s⟩ := a
  unfold Addr.add
  by_cases hi : i = 0 <;> by_cases hj : j = 0 <;> simp [hi, hj] <;> omega
theorem HdrsAt.flat {w : World} {ad : Addr} {l : List Hdr} (h : HdrsAt w (some ad) l) : ∀ j u, (hflat l)[j]? = some u → w.cell? (ad.add j) = some u := by
  intro j u hj
  have hlt : j < l.length * 3 := by
    rcases Nat.lt_or_ge j (l.length * 3) with h1 | h1
    · exact h1
    · rw [List.getElem?_eq_none (by rw [hflat_len]; exact h1)] at hj; cases hj
  have hi : j / 3 < l.length := by omega
  have e : j = j / 3 * 3 + j % 3 := by omega
  rw [e, hflat_get _ _ _ (by omega), List.getElem?_eq_getElem hi] at hj
  obtain ⟨a, ha, _, hc⟩ := h.2 (by omega)
  cases ha
  obtain ⟨_, h2⟩ := hc (j / 3) (l[j / 3]).cells (by simp [hi])
  have := h2 (j % 3) u (by simpa using hj)
  rw [add_add] at this
  rw [e]; exact this
theorem HdrsAt.own {base : Nat} {w : World} {v : Value} {l : List Hdr} (h : w.ownsRow base 35 3 v l.length (hflat l)) : ∃ p c, v = .slice p l.length c ∧ HdrsAt w p l := by
  rcases h.2 with ⟨rfl, h0⟩ | ⟨g, cap, cur, rfl, hb, hgg, h1, h2, h3, h4⟩
  · have : l = [] := List.eq_nil_of_length_eq_zero h0
    subst this
    exact ⟨none, 0, rfl, rfl, fun h => absurd h (Nat.lt_irrefl _)⟩
  · refine ⟨_, cap, rfl, by simp, fun _ => ⟨⟨g, 0, none⟩, rfl, (Array.getElem?_eq_some_iff.1 hgg).1, fun i cs hi => ?_⟩⟩
    rw [List.getElem?_map] at hi
    obtain ⟨x, hx, rfl⟩ := Option.map_eq_some_iff.1 hi
    have hil : i < l.length := by
      rcases Nat.lt_or_ge i l.length with h | h
      · exact h
      · rw [List.getElem?_eq_none h] at hx; cases hx
    refine ⟨rfl, fun j u hj => ?_⟩
    have hj3 : j < 3 := by
      rcases Nat.lt_or_ge j 3 with h | h
      · exact h
      · rw [List.getElem?_eq_none (by simpa [Hdr.cells] using h)] at hj; cases hj
    have h5 : (hflat l)[i * 3 + j]? = some u := by rw [hflat_get _ _ _ hj3, hx]; exact hj
    have := World.ownsRow.cells h (g := g) rfl (i * 3 + j) u h5
    rw [add_add]; exact this
/-- Trailers as they are passed on. -/
def trailL (l : List Hdr) : List Hdr := if walkF [] l = 0 then l else []
def RTPost (l : List Hdr) (w : World) (e : Ending) (w' : World) : Prop :=
  ∃ p c, e = .returned (.tuple #[.slice p (trailL l).length c, .int .i64 (walkF [] l)]) ∧ HdrsAt w' p (trailL l) ∧ Below w.heap.size w w'
theorem rt_bad {l : List Hdr} {w w' : World} {e : Ending} (h0 : walkF [] l ≠ 0) (he : e = .returned (.tuple #[.slice none 0 0, .int .i64 (walkF [] l)])) (hb : Below w.heap.size w w') : RTPost l w e w' := by
  have ht : trailL l = [] := by unfold trailL; rw [if_neg h0]
  exact ⟨none, 0, by rw [ht]; exact he, by rw [ht]; exact ⟨rfl, fun h => absurd h (Nat.lt_irrefl _)⟩, hb⟩
theorem rt_good {l : List Hdr} {base : Nat} {w w' : World} {e : Ending} {v : Value} (h0 : walkF [] l = 0) (ho : w'.ownsRow base 35 3 v l.length (hflat l)) (he : e = .returned (.tuple #[v, .int .i64 0])) (hb : Below w.heap.size w w') : RTPost l w e w' := by
  have ht : trailL l = l := by unfold trailL; rw [if_pos h0]
  obtain ⟨p, c, rfl, hh⟩ := HdrsAt.own ho
  exact ⟨p, c, by rw [ht, h0]; exact he, by rw [ht]; exact hh, hb⟩
theorem hdr_one (l : List Hdr) : ∀ u ∈ hflat l, u.oneCell' = true := by
  intro u hu
  unfold hflat at hu
  obtain ⟨x, _, hx⟩ := List.mem_flatMap.1 hu
  simp only [Hdr.cells, List.mem_cons, List.not_mem_nil, or_false] at hx
  rcases hx with rfl | rfl | rfl <;> rfl
theorem neHdr (w : World) (n v : ByteArray) (b : Bool) : (binOp .neq 35 (.agg #[.string n, .string v, .bool b]) (.agg #[.string n, .string v, .bool b])).run Tryz.prog w = .ok (.bool false) w := by
  have u3 := Tryz.underlying9
  have a3 := Tryz.isAgg9
  have z3 := Tryz.sizeOf9
  have u4 := Tryz.underlying4
  have a4 := Tryz.isAgg4
  have z4 := Tryz.sizeOf4
  have hS : Tryz.prog.underlying 35 = some (.struct (Tryz.prog.fieldsOf 35)) := by kernel_rfl
  have hp : Tryz.prog.stoodInHeld 35 = false := by kernel_rfl
  rw [run_neq_struct, show (10000 : Nat) = 9999 + 1 from rfl, run_equalIn_agg w 9999 35 _ _ hS hp]
  simp only [Program.fieldsOf, Tryz.underlying35]
  go_simp
set_option maxHeartbeats 1000000 in
set_option maxRecDepth 100000 in
theorem headers_same {A B : Option Addr} {c d : Nat} {l : List Hdr} {w : World} (ha : HdrsAt w A l) (hb : HdrsAt w B l) (hm : l.length * 40 ≤ 140737488351232) :
    Calls Tryz.prog 8 #[.slice A l.length c, .slice B l.length d] w fun e w' => e = .returned (.bool true) ∧ Below w.heap.size w w' := by
  have HA := Lib.hid ha
  have HB := Lib.hid hb
  clear ha hb
  go_enter Tryz.func8, Tryz.ntmps8
  go_wp2_with fail
  go_loopw [5] (fun i wr => ∃ k : Nat, k ≤ l.length ∧ i = .int .i64 k ∧ Hid (Below w.heap.size w wr)) (fun i _ => l.length - (intOf i).toNat)
  case atStart => exact ⟨0, by omega, rfl, Lib.hid (Below.refl _ _)⟩
  case round =>
    obtain ⟨k, hk, rfl, HW⟩ := hrel
    by_cases hlt : k < l.length
    · obtain ⟨ad, rfl, c0, c1, c2, _⟩ := (HA.out.below HW.out).get k hlt
      obtain ⟨bd, rfl, d0, d1, d2, _⟩ := (HB.out.below HW.out).get k hlt
      generalize l[k].name = n at *
      generalize l[k].value = v at *
      generalize l[k].secret = s at *
      have hne := fun W => neHdr W n v s
      have hgd : ∀ (op : BinOp) (a b : Operand) (W : World), (eqGuard op 35 a b (.agg #[.string n, .string v, .bool s]) (.agg #[.string n, .string v, .bool s])).run Tryz.prog W = .ok () W := fun op a b W => run_eqGuard_agg W op 35 a b _ _ (by kernel_rfl)
      go_wp2_with fail
      go_region
      go_wp2_with fail
      go_roundw
      case rel => exact ⟨k + 1, by omega, by go_num, Lib.hid (by first | exact HW.out | exact HW.out.drew)⟩
      case measure => simp [intOf]; omega
    · obtain rfl : k = l.length := by omega
      go_wp2_with fail
      go_ret
      exact ⟨rfl, HW.out⟩
end Go.Proofs.YtfljibjjpgdmhaaGreatDoor
