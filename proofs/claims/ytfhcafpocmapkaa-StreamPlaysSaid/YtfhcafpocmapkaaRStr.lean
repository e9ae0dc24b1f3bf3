/- The reference's streams in memory. -/
import Derived.Test.YtfhcafpocmapkaaStrSpec
import Derived.Test.YtfhcafpocmapkaaOff
set_option linter.unusedVariables false
set_option linter.unusedSimpArgs false
set_option linter.unusedSectionVars false
namespace Go.Proofs.Ytfhcafpocmapkaa
open Go.RowKit
/-- The reference's streams: the known ones in the order of their numbers, the dropped ones, at most 64. -/
structure RS where
  server : Bool
  most : Int
  mine : Int
  es : List (Int × Int)
  gone : List Int
  theirs : Int
  ours : Int
def oneC (p : Int × Int) : List Value := [.int .i64 p.1, .int .i64 p.2]
def oflat (l : List (Int × Int)) : List Value := l.flatMap oneC
theorem oflat_len (l : List (Int × Int)) : (oflat l).length = l.length * 2 := by
  unfold oflat
  induction l with
  | nil => rfl
  | cons t l ih => rw [List.flatMap_cons, List.length_append, ih]; simp [oneC]; omega
theorem oflat_get : ∀ (l : List (Int × Int)) (i c : Nat), c < 2 → (oflat l)[i * 2 + c]? = (l[i]?).bind (fun t => (oneC t)[c]?)
  | [], _, _, _ => by simp [oflat]
  | t :: l, 0, c, hc => by
    unfold oflat
    rw [List.flatMap_cons, List.getElem?_append_left (by simp [oneC]; omega)]; simp
  | t :: l, i + 1, c, hc => by
    have ih := oflat_get l i c hc
    unfold oflat at ih ⊢
    rw [List.flatMap_cons, List.getElem?_append_right (by simp [oneC]; omega)]
    rw [show (i + 1) * 2 + c - (oneC t).length = i * 2 + c by simp [oneC]; omega, ih]
    simp
theorem oflat_app (a b : List (Int × Int)) : oflat (a ++ b) = oflat a ++ oflat b := by unfold oflat; exact List.flatMap_append
def RS.cells (s : RS) (lv gv : Value) : List Value := [.bool s.server, .int .i64 s.most, .int .i64 s.mine, lv, gv, .int .i64 s.theirs, .int .i64 s.ours]
abbrev OwnsL (base : Nat) (w : World) (v : Value) (l : List (Int × Int)) : Prop := w.ownsRow base 72 2 v l.length (oflat l)
theorem OwnsL.of_same {base : Nat} {w w' : World} {v : Value} {l : List (Int × Int)} (h : OwnsL base w v l) (k : ∀ g, v.ownBlock = some g → w'.heap[g]? = w.heap[g]?) : OwnsL base w' v l := by
  refine ⟨h.1, ?_⟩
  rcases h.2 with hn | ⟨g, cap, cur, rfl, hb, hgg, rest⟩
  · exact .inl hn
  · exact .inr ⟨g, cap, cur, rfl, hb, (k g rfl).trans hgg, rest⟩
theorem OwnsL.form {base : Nat} {w : World} {v : Value} {l : List (Int × Int)} (h : OwnsL base w v l) : ∃ p cap, v = .slice p l.length cap ∧ l.length ≤ cap ∧ cap ≤ maxLen ∧ ∀ j (hj : j < l.length), ∃ g, p = some ⟨g, 0, none⟩ ∧ w.cell? ⟨g, j * 2, none⟩ = some (.int .i64 l[j].1) ∧ w.cell? ⟨g, j * 2 + 1, none⟩ = some (.int .i64 l[j].2) ∧ g < w.heap.size := by
  rcases h.2 with ⟨hv, h0⟩ | ⟨g, cap, cur, hv, hb, hgg, h1, h2, h3, h4⟩
  · have : l = [] := List.eq_nil_of_length_eq_zero h0
    subst this
    exact ⟨none, 0, hv, Nat.le_refl _, by decide, fun j hj => absurd hj (Nat.not_lt_zero _)⟩
  · subst hv
    refine ⟨_, cap, rfl, h1, h2, fun j hj => ⟨g, rfl, ?_, ?_, (Array.getElem?_eq_some_iff.1 hgg).1⟩⟩
    · have := World.ownsRow.cells h (g := g) rfl (j * 2 + 0) (.int .i64 l[j].1) (by rw [oflat_get _ _ _ (by omega), List.getElem?_eq_getElem hj]; rfl)
      rw [oadd_none, Nat.zero_add] at this
      exact this
    · have := World.ownsRow.cells h (g := g) rfl (j * 2 + 1) (.int .i64 l[j].2) (by rw [oflat_get _ _ _ (by omega), List.getElem?_eq_getElem hj]; rfl)
      rw [oadd_none, Nat.zero_add] at this
      exact this
structure RAt (base : Nat) (w : World) (xb : Nat) (lv gv : Value) (s : RS) : Prop where
  blk : BlockIs w xb (s.cells lv gv)
  row : OwnsL base w lv s.es
  gon : OwnsO base w gv s.gone
  nl : lv.ownBlock ≠ some xb
  ng : gv.ownBlock ≠ some xb
  nlg : ∀ g, lv.ownBlock = some g → gv.ownBlock ≠ some g
  glen : s.gone.length ≤ 64
def rsfoot (xb : Nat) (lv gv : Value) (x : Nat) : Prop := x = xb ∨ lv.ownBlock = some x ∨ gv.ownBlock = some x
section
variable {base xb : Nat} {w : World} {lv gv : Value} {s : RS}
theorem RAt.foot_lt (h : RAt base w xb lv gv s) {x : Nat} (hx : rsfoot xb lv gv x) : x < w.heap.size := by
  rcases hx with rfl | hx | hx
  · exact h.blk.lt
  · exact (World.ownsRow.lt h.row x hx).2
  · exact (h.gon.lt hx).2
theorem RAt.keeps {S : Nat → Prop} {w' : World} (h : RAt base w xb lv gv s) (k : Keeps S w w') (hf : ∀ x, rsfoot xb lv gv x → ¬ S x) : RAt base w' xb lv gv s :=
  ⟨h.blk.keeps k (hf xb (.inl rfl)), h.row.of_same (fun g hg => k.block g (World.ownsRow.lt h.row g hg).2 (hf g (.inr (.inl hg)))), h.gon.keeps k (fun g hg => hf g (.inr (.inr hg))), h.nl, h.ng, h.nlg, h.glen⟩
theorem RAt.below {w' : World} (h : RAt base w xb lv gv s) (k : Below w.heap.size w w') : RAt base w' xb lv gv s := h.keeps (Keeps.of_below (S := fun _ => False) k) (fun _ _ e => e)
theorem RAt.cells (h : RAt base w xb lv gv s) : w.cell? ⟨xb, 0, none⟩ = some (.bool s.server) ∧ w.cell? ⟨xb, 1, none⟩ = some (.int .i64 s.most) ∧ w.cell? ⟨xb, 2, none⟩ = some (.int .i64 s.mine) ∧ w.cell? ⟨xb, 3, none⟩ = some lv ∧ w.cell? ⟨xb, 4, none⟩ = some gv ∧ w.cell? ⟨xb, 5, none⟩ = some (.int .i64 s.theirs) ∧ w.cell? ⟨xb, 6, none⟩ = some (.int .i64 s.ours) ∧ xb < w.heap.size :=
  ⟨h.blk.cell 0, h.blk.cell 1, h.blk.cell 2, h.blk.cell 3, h.blk.cell 4, h.blk.cell 5, h.blk.cell 6, h.blk.lt⟩
end
/-- What a call leaves. -/
def RSPost (base xb : Nat) (lv gv : Value) (s' : RS) (r : Value) (w : World) (e : Ending) (w' : World) : Prop :=
  ∃ lv' gv', e = .returned r ∧ RAt base w' xb lv' gv' s' ∧ (∀ x, rsfoot xb lv' gv' x → rsfoot xb lv gv x ∨ w.heap.size ≤ x) ∧ Keeps (rsfoot xb lv gv) w w'
theorem rspost_below {base xb : Nat} {lv gv r : Value} {s : RS} {w w' : World} (h : RAt base w xb lv gv s) (hb : Below w.heap.size w w') : RSPost base xb lv gv s r w (.returned r) w' :=
  ⟨lv, gv, rfl, h.below hb, fun _ hx => .inl hx, Keeps.of_below hb⟩
theorem RSPost.then {base xb : Nat} {lv gv r r' : Value} {s' s'' : RS} {w w1 w' : World} {e e' : Ending} (h : RSPost base xb lv gv s' r w e w1) (h2 : ∀ lv1 gv1, RAt base w1 xb lv1 gv1 s' → RSPost base xb lv1 gv1 s'' r' w1 e' w') : RSPost base xb lv gv s'' r' w e' w' := by
  obtain ⟨lv1, gv1, _, k1, k2, k3⟩ := h
  obtain ⟨lv2, gv2, he, q1, q2, q3⟩ := h2 lv1 gv1 k1
  refine ⟨lv2, gv2, he, q1, fun x hx => ?_, k3.then q3 (fun x hx => k2 x hx)⟩
  rcases q2 x hx with h | h
  · exact k2 x h
  · exact .inr (Nat.le_trans k3.size h)
/-- Plain: what the calls make of it. -/
def RS.drop (s : RS) (id : Int) : RS := { s with gone := (s.gone ++ [id]).drop ((s.gone ++ [id]).length - 64) }
def RS.count (s : RS) (own : Bool) : Nat := (s.es.filter fun p => (oursB s.server p.1 == own) && !(p.2 == 4)).length
def rput (id : Int) : List (Int × Int) → List (Int × Int)
  | [] => [(id, 0)]
  | p :: t => if id < p.1 then (id, 0) :: p :: t else p :: rput id t
def RS.dropped (s : RS) (id : Int) : Bool := s.gone.contains id
def RS.state (s : RS) (id : Int) : Int := match aget id s.es with
  | some st => st
  | none => if numberB id = false ∨ (oursB s.server id = true ∧ s.ours < id) ∨ (oursB s.server id = false ∧ s.theirs < id) then 0 else 4
def RS.peer (s : RS) (id : Int) : RS × Bool × FaultR :=
  if numberB id = false ∨ oursB s.server id = true ∨ id ≤ s.theirs then (s, false, ⟨true, 0, 1⟩)
  else if s.most ≤ s.count false then (({ s with theirs := id } : RS).drop id, false, noFault)
  else ({ s with theirs := id, es := rput id s.es }, true, noFault)
def RS.ownNext (s : RS) : Int := if s.ours = 0 ∧ s.server = false then 1 else s.ours + 2
def RS.own (s : RS) : RS × Int × Int :=
  if s.mine ≤ s.count true then (s, 0, 9)
  else if 2147483647 < s.ownNext then (s, 0, 2)
  else ({ s with ours := s.ownNext, es := rput s.ownNext s.es }, s.ownNext, 0)
def RS.limit (s : RS) (most : Int) : RS × Int := if most < 0 then (s, 1) else ({ s with mine := min most 1024 }, 0)
def RS.do (s : RS) (id what : Int) : RS × Int × FaultR × Int :=
  if numberB id = false then (s, 0, noFault, 1)
  else if s.dropped id = true ∧ 0 ≤ what ∧ what ≤ 4 then (s, 4, noFault, 0)
  else
    let r := stepF (s.state id) what
    if r.err ≠ 0 then (s, 0, noFault, r.err)
    else if r.kind = 1 then (s, 0, ⟨true, id, r.code⟩, 0)
    else if r.kind = 2 then (s, 0, ⟨true, 0, r.code⟩, 0)
    else if (aget id s.es).isSome = false then (s, r.next, noFault, 0)
    else if r.next ≠ 4 then ({ s with es := aput id r.next s.es }, r.next, noFault, 0)
    else if what = 8 then (({ s with es := adel id s.es } : RS).drop id, r.next, noFault, 0)
    else ({ s with es := adel id s.es }, r.next, noFault, 0)
end Go.Proofs.Ytfhcafpocmapkaa
