/- A tick of a wheel that a law made itself; the laws' ints and has. -/
import Derived.Test.YtnaeplheokbokaaWhlOwn
import Derived.Test.YtnaeplheokbokaaWhlTick
namespace Go.Proofs.Ytnaeplheokbokaa
open Go.RowKit Go.Sort
/-- The law's own wheel, all of whose blocks lie below B. -/
def OwnC (w0 : World) (B b m : Nat) (s : PW) (w : World) : Prop :=
  ∃ sv, WhlAt w0.heap.size w b m sv s ∧ (∀ x, foot b m sv x → w0.heap.size ≤ x ∧ x < B) ∧ Below w0.heap.size w0 w
theorem Own.clear {w0 w : World} {b m : Nat} {s : PW} (h : Own w0 b m s w) : OwnC w0 w.heap.size b m s w := by
  obtain ⟨sv, h1, h2, h3⟩ := h
  exact ⟨sv, h1, fun x hx => ⟨h2 x hx, h1.foot_lt hx⟩, h3⟩
theorem OwnC.below {w0 w w' : World} {B b m : Nat} {s : PW} (h : OwnC w0 B b m s w) (k : Below w.heap.size w w') : OwnC w0 B b m s w' := by
  obtain ⟨sv, h1, h2, h3⟩ := h
  exact ⟨sv, h1.below k, h2, below_then h3 k⟩
theorem OwnC.keeps {w0 w w' : World} {B b m : Nat} {s : PW} (h : OwnC w0 B b m s w) (hB : w0.heap.size ≤ B) (k : Keeps (fun x => B ≤ x) w w') : OwnC w0 B b m s w' := by
  obtain ⟨sv, h1, h2, h3⟩ := h
  exact ⟨sv, h1.keeps k (fun x hx e => by have := (h2 x hx).2; omega), h2, h3.trans (k.below h3.size (fun x hx => Nat.le_trans hB hx))⟩
theorem OwnC.own {w0 w : World} {B b m : Nat} {s : PW} (h : OwnC w0 B b m s w) : Own w0 b m s w := by
  obtain ⟨sv, h1, h2, h3⟩ := h
  exact ⟨sv, h1, fun x hx => (h2 x hx).1, h3⟩
/-- A tick: the wheel, the row of numbers, and all from B on as it was. -/
def OwnTick (w0 : World) (B b m : Nat) (s : PW) (w : World) (e : Ending) (w' : World) : Prop :=
  ∃ v, e = .returned v ∧ Own w0 b m s.tickF.1 w' ∧ Owns w.heap.size w' v s.tickF.2 ∧ w.heap.size ≤ w'.heap.size ∧ ∀ x, B ≤ x → x < w.heap.size → w'.heap[x]? = w.heap[x]?
theorem own_tick {w0 w : World} {B b m : Nat} {s : PW} (h : OwnC w0 B b m s w) (hs : s.Good) (hb : s.now ≤ 4611686018427387904) (hb2 : s.set ≤ 4611686018427387904) :
    Calls Try.prog 14 #[.pointer (some ⟨b, 0, none⟩)] w (OwnTick w0 B b m s w) := by
  obtain ⟨sv, h1, h2, h3⟩ := h
  refine (wtick_any h1 hs hb hb2 h3.size).mono ?_
  rintro e w' ⟨sv', v, rfl, k1, k2, k3, k4, k5⟩
  refine ⟨v, rfl, ⟨sv', k1, fun x hx => ?_, h3.trans (k3.below h3.size (fun x hx => (h2 x hx).1))⟩, k4, k3.size, fun x hB hx => k3.block x hx (fun e => by have := (h2 x e).2; omega)⟩
  rcases k2 x hx with h4 | h4
  · exact (h2 x h4).1
  · exact Nat.le_trans h3.size h4
/-- The numbers of a row that is owned. -/
theorem Owns.nums {base : Nat} {w : World} {v : Value} {xs : List Int} (h : Owns base w v xs) : ∃ p cap, v = .slice p xs.length cap ∧ ∀ j (hj : j < xs.length), ∃ g, p = some ⟨g, 0, none⟩ ∧ w.cell? ⟨g, j, none⟩ = some (.int .i64 xs[j]) := by
  rcases h.form with ⟨hv, hx⟩ | ⟨g, cap, hv, _⟩
  · subst hx
    exact ⟨none, 0, hv, fun j hj => absurd hj (Nat.not_lt_zero _)⟩
  · subst hv
    refine ⟨_, cap, rfl, fun j hj => ⟨g, rfl, ?_⟩⟩
    have := h.cell j hj
    rw [Nat.zero_add] at this
    rw [this]; simp [hj]
set_option maxHeartbeats 1000000 in
set_option maxRecDepth 100000 in
theorem ints_same {B B' : Nat} {w : World} {v v' : Value} {xs : List Int} (h : Owns B w v xs) (h' : Owns B' w v' xs) (hn : xs.length ≤ 1048576) :
    Calls Try.prog 13 #[v, v'] w fun e w' => e = .returned (.bool true) ∧ Below w.heap.size w w' := by
  obtain ⟨p, cap, rfl, hc⟩ := h.nums
  obtain ⟨p', cap', rfl, hc'⟩ := h'.nums
  have HC := Lib.hid hc
  have HC' := Lib.hid hc'
  clear h h' hc hc'
  go_enter Try.func13, Try.ntmps13
  go_wp2_with fail
  go_loopw [5] (fun i wr => ∃ k : Nat, k ≤ xs.length ∧ i = .int .i64 k ∧ Hid (Below w.heap.size w wr)) (fun i _ => xs.length - (intOf i).toNat)
  case atStart => exact ⟨0, by omega, rfl, Lib.hid (Below.refl _ _)⟩
  case round =>
    obtain ⟨k, hk, rfl, HB⟩ := hrel
    by_cases hlt : k < xs.length
    · obtain ⟨g, hg, c0⟩ := HC.out k hlt
      obtain ⟨g', hg', c1⟩ := HC'.out k hlt
      subst hg
      subst hg'
      have d0 := (HB.out.cell (World.block_lt_of_cell? w _ c0)).trans c0
      have d1 := (HB.out.cell (World.block_lt_of_cell? w _ c1)).trans c1
      clear c0 c1
      go_wp2_with fail
      try go_region
      try go_wp2_with fail
      go_roundw
      case rel => exact ⟨k + 1, by omega, by go_num, Lib.hid (by first | exact HB.out | exact HB.out.drew)⟩
      case measure => simp [intOf]; omega
    · obtain rfl : k = xs.length := by omega
      go_wp2_with fail
      go_ret
      exact ⟨rfl, HB.out⟩
set_option maxHeartbeats 1000000 in
set_option maxRecDepth 100000 in
theorem has_any {B : Nat} {w : World} {v : Value} {xs : List Int} (h : Owns B w v xs) (hn : xs.length ≤ 1048576) (n : Int) :
    Calls Try.prog 16 #[v, .int .i64 n] w fun e w' => e = .returned (.bool (xs.any (fun x => decide (x = n)))) ∧ Below w.heap.size w w' := by
  obtain ⟨p, cap, rfl, hc⟩ := h.nums
  have HC := Lib.hid hc
  clear h hc
  go_enter Try.func16, Try.ntmps16
  go_wp2_with fail
  go_loop [5] (fun i => ∃ k : Nat, k ≤ xs.length ∧ i = .int .i64 k ∧ Hid (Upto (fun j => ∀ h : j < xs.length, xs[j] ≠ n) k)) (fun i => xs.length - (intOf i).toNat)
  case atStart => exact ⟨0, by omega, rfl, Lib.hid (Upto.zero _)⟩
  case round =>
    obtain ⟨k, hk, rfl, HM⟩ := hrel
    by_cases hlt : k < xs.length
    · obtain ⟨g, hg, c0⟩ := HC.out k hlt
      subst hg
      by_cases he : xs[k] = n
      · have HR : Hid (xs.any (fun x => decide (x = n)) = true) := Lib.hid (by rw [List.any_eq_true]; exact ⟨_, List.getElem_mem hlt, decide_eq_true he⟩)
        have heb : (xs[k] == n) = true := by simp [he]
        go_wp2_with fail
        go_ret
        exact ⟨bool_eq (by rw [HR.out]), Below.refl _ _⟩
      · have HE := Lib.hid he
        have heb : (xs[k] == n) = false := by simp [he]
        go_wp2_with fail
        go_round
        case rel => exact ⟨k + 1, by omega, by go_num, Lib.hid (HM.out.succ (fun _ => HE.out))⟩
        case measure => simp [intOf]; omega
    · obtain rfl : k = xs.length := by omega
      have HR : Hid (xs.any (fun x => decide (x = n)) = false) := Lib.hid (by
        rw [List.any_eq_false]
        intro x hx
        obtain ⟨j, hj, rfl⟩ := List.mem_iff_getElem.1 hx
        simpa using HM.out.out j hj hj)
      go_wp2_with fail
      go_ret
      exact ⟨bool_eq (by rw [HR.out]), Below.refl _ _⟩
end Go.Proofs.Ytnaeplheokbokaa
