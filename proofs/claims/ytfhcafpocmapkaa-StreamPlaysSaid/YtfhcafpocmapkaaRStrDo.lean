/- The walk of the reference streams' Do. -/
import Derived.Test.YtfhcafpocmapkaaRStrPeer
import Derived.Deep.DeepCutAuto
set_option linter.unusedVariables false
set_option linter.unusedSimpArgs false
set_option linter.unusedSectionVars false
namespace Go.Proofs.Ytfhcafpocmapkaa
open Go.RowKit
theorem below_setB {n g : Nat} {w w1 : World} (h : Below n w w1) (hg : n ≤ g) (o : Nat) (v : Value) : Below n w (w1.setCell ⟨g, o, none⟩ v) := Below.setCell h (p := ⟨g, o, none⟩) hg v
theorem oflat_set : ∀ (l : List (Int × Int)) (k : Nat) (id u : Int) (hk : k < l.length), l[k].1 = id → oflat (l.set k (id, u)) = (oflat l).set (k * 2 + 1) (.int .i64 u)
  | [], _, _, _, hk, _ => absurd hk (Nat.not_lt_zero _)
  | p :: t, 0, id, u, _, h => by
    simp only [List.getElem_cons_zero] at h
    subst h
    rfl
  | p :: t, k + 1, id, u, hk, h => by
    have ih := oflat_set t k id u (by simpa using hk) (by simpa using h)
    show oflat (p :: t.set k (id, u)) = _
    have e : ∀ (l : List (Int × Int)), oflat (p :: l) = .int .i64 p.1 :: .int .i64 p.2 :: oflat l := fun _ => rfl
    rw [e, e, ih, show (k + 1) * 2 + 1 = (k * 2 + 1) + 1 + 1 by omega, List.set_cons_succ, List.set_cons_succ]
theorem OwnsL.set {base g n cap : Nat} {w : World} {l : List (Int × Int)} (h : OwnsL base w (.slice (some ⟨g, 0, none⟩) n cap) l) (k : Nat) (hk : k < l.length) (id u : Int) (hid : l[k].1 = id) : OwnsL base (w.setCell ⟨g, k * 2 + 1, none⟩ (.int .i64 u)) (.slice (some ⟨g, 0, none⟩) n cap) (l.set k (id, u)) := by
  unfold OwnsL at h ⊢
  rw [List.length_set]
  refine ⟨by rw [oflat_set l k id u hk hid, List.length_set]; exact h.1, ?_⟩
  rcases h.2 with ⟨hv, h0⟩ | ⟨g', cap', cur, hv, hb, hgg, h1, h2, h3, h4⟩
  · omega
  · right
    have hgg' : g = g' := by injection hv with e1; injection e1 with e2; injection e2
    subst hgg'
    refine ⟨g, cap', cur.setIfInBounds (k * 2 + 1) (.int .i64 u), hv, hb, ?_, h1, h2, by simpa using h3, ?_⟩
    · simp only [World.setCell, Array.getElem?_modify, if_true, hgg, Option.map_some]
      rfl
    · rw [oflat_set l k id u hk hid, ← h4]
      simp [List.take_set]
theorem oflat_cut1 (l : List (Int × Int)) (k : Nat) (p : Int × Int) : oflat (l.set k p) = oflat (l.take k) ++ oflat ((l.set k p).drop k) := by
  rw [← oflat_app, ← List.take_set_of_le (a := p) (Nat.le_refl k), List.take_append_drop]
theorem oflat_cut2 (l : List (Int × Int)) (k : Nat) (p : Int × Int) : oflat (l.set k p) = oflat ((l.set k p).take (k + 1)) ++ oflat (l.drop (k + 1)) := by
  rw [← oflat_app, ← List.drop_set_of_lt (a := p) (Nat.lt_succ_self k), List.take_append_drop]
section
variable {base xb : Nat} {w : World} {lv gv : Value} {s : RS}
theorem RAt.setL {g n cap : Nat} (h : RAt base w xb (.slice (some ⟨g, 0, none⟩) n cap) gv s) (k : Nat) (hk : k < s.es.length) (id u : Int) (hid : s.es[k].1 = id) : RAt base (w.setCell ⟨g, k * 2 + 1, none⟩ (.int .i64 u)) xb (.slice (some ⟨g, 0, none⟩) n cap) gv { s with es := s.es.set k (id, u) } :=
  ⟨h.blk.far (p := ⟨g, k * 2 + 1, none⟩) (fun e => h.nl (by rw [e]; rfl)) _, h.row.set k hk id u hid, h.gon.keeps (S := fun x => x = g) ((Keeps.refl (fun x => x = g) _).set1 rfl _ _) (fun x hx e => h.nlg g rfl (by rw [hx, show x = g from e])), h.nl, h.ng, h.nlg, h.glen⟩
theorem rdel_fin {k : Nat} {id nx : Int} {v1 v2 : Value} {w5 w6 w7 : World} (h : RAt base w5 xb lv gv { s with es := s.es.set k (id, nx) }) (hg1 : w5.grownBy w6 none) (hg2 : w6.grownBy w7 v1.ownBlock)
    (ho1 : w6.ownsRow w5.heap.size 72 2 v1 (0 + k) ([] ++ oflat (s.es.take k)))
    (ho2 : w7.ownsRow w5.heap.size 72 2 v2 (0 + k + (s.es.length - (k + 1))) ([] ++ oflat (s.es.take k) ++ oflat (s.es.drop (k + 1))))
    (hd : adel id s.es = s.es.take k ++ s.es.drop (k + 1)) (hk : k < s.es.length) (hbase : base ≤ w5.heap.size) : RSCore base xb lv gv { s with es := adel id s.es } w5 (w7.setCell ⟨xb, 3, none⟩ v2) := by
  have hxl := h.blk.lt
  have hv2 : ∀ g, v2.ownBlock = some g → w5.heap.size ≤ g := fun g hg => (World.ownsRow.lt ho2 g hg).1
  have k7 : Keeps (fun _ => False) w5 w7 := ((Keeps.refl (fun _ => False) w5).grown hg1 (fun x e => by cases e)).grown hg2 (fun x e => .inr (World.ownsRow.lt ho1 x e).1)
  have k8 : Keeps (fun x => x = xb) w5 (w7.setCell ⟨xb, 3, none⟩ v2) := Keeps.set1 (S := fun x => x = xb) (k7.mono (fun x e => e.elim)) rfl _ _
  have hlen : (adel id s.es).length = 0 + k + (s.es.length - (k + 1)) := by
    rw [hd, List.length_append, List.length_take, List.length_drop]
    omega
  refine ⟨v2, gv, ⟨(h.blk.keeps k7 (fun e => e)).set 3 v2, ?_, h.gon.keeps k8 (fun g hg e => h.ng (by rw [hg, show g = xb from e])), fun e => by have := hv2 xb e; omega, h.ng, fun g hg e => by have a := hv2 g hg; have b := (h.gon.lt e).2; omega, h.glen⟩, ?_, ?_⟩
  · have hr : oflat (adel id s.es) = [] ++ oflat (s.es.take k) ++ oflat (s.es.drop (k + 1)) := by rw [hd, oflat_app]; rfl
    show World.ownsRow _ base _ 2 v2 (adel id s.es).length (oflat (adel id s.es))
    rw [hlen, hr]
    refine ⟨ho2.1, ?_⟩
    rcases ho2.2 with hn | ⟨g, cap, cur, e, hbb, hgg, rest⟩
    · exact .inl hn
    · refine .inr ⟨g, cap, cur, e, by omega, ?_, rest⟩
      rw [Below.heap_setCell _ _ _ _ (show g ≠ xb by omega)]; exact hgg
  · rintro x (rfl | hx | hx)
    · exact .inl (.inl rfl)
    · exact .inr (hv2 x hx)
    · exact .inl (.inr (.inr hx))
  · exact k8.mono (fun x e => .inl (.inl e))
theorem RSCore.then {s' s'' : RS} {w w1 w2 : World} (h : RSCore base xb lv gv s' w w1) (h2 : ∀ lv1 gv1, RAt base w1 xb lv1 gv1 s' → RSCore base xb lv1 gv1 s'' w1 w2) : RSCore base xb lv gv s'' w w2 := by
  obtain ⟨lv1, gv1, k1, k2, k3⟩ := h
  obtain ⟨lv2, gv2, q1, q2, q3⟩ := h2 lv1 gv1 k1
  refine ⟨lv2, gv2, q1, fun x hx => ?_, k3.then q3 (fun x hx => k2 x hx)⟩
  rcases q2 x hx with h | h
  · exact k2 x h
  · exact .inr (Nat.le_trans k3.size h)
theorem RSCore.comp {lv1 gv1 : Value} {s'' : RS} {w w1 w2 : World} (hf : ∀ x, rsfoot xb lv1 gv1 x → rsfoot xb lv gv x ∨ w.heap.size ≤ x) (hk : Keeps (rsfoot xb lv gv) w w1) (h : RSCore base xb lv1 gv1 s'' w1 w2) : RSCore base xb lv gv s'' w w2 := by
  obtain ⟨lv2, gv2, q1, q2, q3⟩ := h
  refine ⟨lv2, gv2, q1, fun x hx => ?_, hk.then q3 hf⟩
  rcases q2 x hx with h | h
  · exact hf x h
  · exact .inr (Nat.le_trans hk.size h)
theorem RSCore.box {s'' : RS} {N : Nat} {cs : List Value} {w1 w2 : World} (h : RSCore base xb lv gv s'' w1 w2) (hb : BlockIs w1 N cs) (hn : ¬ rsfoot xb lv gv N) : BlockIs w2 N cs := by
  obtain ⟨_, _, _, _, q3⟩ := h
  exact hb.keeps q3 hn
end
end Go.Proofs.Ytfhcafpocmapkaa
