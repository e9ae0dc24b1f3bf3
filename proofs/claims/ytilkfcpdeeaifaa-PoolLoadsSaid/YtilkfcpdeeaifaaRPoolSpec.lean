/- The reference's pool in memory, and what a call on it leaves. -/
import Derived.Test.YtilkfcpdeeaifaaPoolDo2
import Derived.Test.YtilkfcpdeeaifaaRefWhl2
set_option linter.unusedVariables false
set_option linter.unusedSimpArgs false
set_option linter.unusedSectionVars false
namespace Go.Proofs.Ytilkfcpdeeaifaa.Rf
open Go.RowKit Go.Sort
def mdR (m : Md) : List Value := [.int .i64 m.fail, .int .i64 m.rise, .int .i64 m.hold, .bool (decide (m.st = 1)), .int .i64 m.run, .int .i64 m.hd]
def pfoot (pb : Nat) (gl : List Nat) (bs : List Bk) (xb : Nat) (sv : Value) (x : Nat) : Prop := x ∈ pown pb gl bs ∨ rfoot xb sv x
structure PoolAt (base : Nat) (w : World) (pb xb : Nat) (gl : List Nat) (sv : Value) (v : Value) (s : PS) : Prop where
  blk : BlockIs w pb [v, .pointer (some ⟨xb, 0, none⟩), .int .i64 s.retry, .int .i64 s.most]
  row : RowB w gl v s.bs
  mds : ∀ b ∈ s.bs, BlockIs w b.mb (mdR b.md)
  whl : RefAt base w xb sv s.W
  nod : (pown pb gl s.bs).Nodup
  off : ∀ x ∈ pown pb gl s.bs, ¬ rfoot xb sv x
section
variable {base : Nat} {w : World} {pb xb : Nat} {gl : List Nat} {sv : Value} {v : Value} {s : PS}
theorem PoolAt.own_lt (h : PoolAt base w pb xb gl sv v s) {x : Nat} (hx : x ∈ pown pb gl s.bs) : x < w.heap.size := by
  rcases List.mem_cons.1 hx with rfl | hx
  · exact h.blk.lt
  · rcases List.mem_append.1 hx with hx | hx
    · exact h.row.lt x hx
    · obtain ⟨b, hb, rfl⟩ := List.mem_map.1 hx
      exact (h.mds b hb).lt
theorem PoolAt.foot_lt (h : PoolAt base w pb xb gl sv v s) {x : Nat} (hx : pfoot pb gl s.bs xb sv x) : x < w.heap.size := hx.elim h.own_lt h.whl.foot_lt
theorem PoolAt.keeps {S : Nat → Prop} {w' : World} (h : PoolAt base w pb xb gl sv v s) (k : Keeps S w w') (hf : ∀ x, pfoot pb gl s.bs xb sv x → ¬ S x) : PoolAt base w' pb xb gl sv v s :=
  ⟨h.blk.keeps k (hf _ (.inl own_pb)), h.row.of_same (fun x hx => k.block x (h.row.lt x hx) (hf _ (.inl (own_gl hx)))), fun b hb => (h.mds b hb).keeps k (hf _ (.inl (own_mb hb))), h.whl.keeps k (fun x hx => hf _ (.inr hx)), h.nod, h.off⟩
theorem PoolAt.below {w' : World} (h : PoolAt base w pb xb gl sv v s) (k : Below w.heap.size w w') : PoolAt base w' pb xb gl sv v s := h.keeps (Keeps.of_below (S := fun _ => False) k) (fun _ _ e => e)
/-- What a call leaves. -/
def PCore (base pb xb : Nat) (gl : List Nat) (sv : Value) (v : Value) (bs : List Bk) (s' : PS) (w w' : World) : Prop :=
  ∃ sv', PoolAt base w' pb xb gl sv' v s' ∧ s'.bs.map Bk.mb = bs.map Bk.mb ∧ (∀ x, rfoot xb sv' x → rfoot xb sv x ∨ w.heap.size ≤ x) ∧ Keeps (pfoot pb gl bs xb sv) w w'
def PPost (base pb xb : Nat) (gl : List Nat) (sv : Value) (v : Value) (bs : List Bk) (s' : PS) (r : Value) (w : World) (e : Ending) (w' : World) : Prop :=
  e = .returned r ∧ PCore base pb xb gl sv v bs s' w w'
theorem ppost_below {w' : World} {r : Value} (h : PoolAt base w pb xb gl sv v s) (k : Below w.heap.size w w') : PPost base pb xb gl sv v s.bs s r w (.returned r) w' :=
  ⟨rfl, sv, h.below k, rfl, fun _ hx => .inl hx, Keeps.of_below k⟩
theorem PoolAt.wheel {w' : World} {e : Ending} {r : Value} {W' : PW} (h : PoolAt base w pb xb gl sv v s) (hp : RPost base xb sv W' r w e w') : PPost base pb xb gl sv v s.bs { s with W := W' } r w e w' := by
  obtain ⟨sv', he, h1, h2, h3⟩ := hp
  refine ⟨he, sv', ⟨h.blk.keeps h3 (h.off _ (own_pb (s := s))), h.row.of_same (fun x hx => h3.block x (h.row.lt x hx) (h.off _ (own_gl hx))), fun b hb => (h.mds b hb).keeps h3 (h.off _ (own_mb hb)), h1, h.nod, fun x hx hf => ?_⟩, rfl, h2, h3.mono (fun x hx => .inl (.inr hx))⟩
  rcases h2 x hf with h4 | h4
  · exact h.off x hx h4
  · have := h.own_lt hx; omega
/-- A call behind steps of one's own; steps of one's own behind a call. -/
theorem PCore.after {w1 w' : World} {s1 s' : PS} (k : Keeps (pfoot pb gl s.bs xb sv) w w1) (hm : s1.bs.map Bk.mb = s.bs.map Bk.mb) (h : PCore base pb xb gl sv v s1.bs s' w1 w') : PCore base pb xb gl sv v s.bs s' w w' := by
  obtain ⟨sv', h1, h2, h3, h4⟩ := h
  refine ⟨sv', h1, h2.trans hm, fun x hx => (h3 x hx).imp id (fun h => Nat.le_trans k.size h), k.then h4 (fun x hx => .inl ?_)⟩
  unfold pfoot at hx ⊢
  rw [pown_eq hm] at hx; exact hx
theorem PCore.then {w1 w' : World} {s1 s' : PS} (h : PCore base pb xb gl sv v s.bs s1 w w1) (h2 : ∀ sv1, PoolAt base w1 pb xb gl sv1 v s1 → PCore base pb xb gl sv1 v s1.bs s' w1 w') : PCore base pb xb gl sv v s.bs s' w w' := by
  obtain ⟨sv1, k1, k2, k3, k4⟩ := h
  obtain ⟨sv', h1, h2, h3, h4⟩ := h2 sv1 k1
  refine ⟨sv', h1, h2.trans k2, fun x hx => ?_, k4.then h4 (fun x hx => ?_)⟩
  · rcases h3 x hx with h | h
    · exact k3 x h
    · exact .inr (Nat.le_trans k4.size h)
  · rcases hx with hx | hx
    · rw [pown_eq k2] at hx; exact .inl (.inl hx)
    · exact (k3 x hx).imp .inr id
/-- A backend of the row: where it lies, and the row around it. -/
theorem PoolAt.back (h : PoolAt base w pb xb gl sv v s) {i : Nat} (hi : i < s.bs.length) :
    ∃ g cap pre post, gl = [g] ∧ v = .slice (some ⟨g, 0, none⟩) s.bs.length cap ∧ pre.length = i * 5 ∧ BlockIs w g (pre ++ (bkC s.bs[i] ++ post)) ∧
      ∀ (w' : World) (b' : Bk), b'.mb = s.bs[i].mb → b'.md = s.bs[i].md → BlockIs w' g (pre ++ (bkC b' ++ post)) → Keeps (fun x => x = g) w w' → PoolAt base w' pb xb gl sv v { s with bs := s.bs.set i b' } := by
  rcases h.row with ⟨_, _, e⟩ | ⟨g, cap, sp, rfl, e, hb⟩
  · rw [e] at hi; exact absurd hi (Nat.not_lt_zero _)
  · have hnd := h.nod
    have hgm : ∀ b ∈ s.bs, b.mb ≠ g := by
      intro b hb e
      have h1 := (List.nodup_cons.1 hnd).2
      rw [List.singleton_append, List.nodup_cons] at h1
      exact h1.1 (e ▸ List.mem_map_of_mem hb)
    have hgp : pb ≠ g := by
      intro e
      exact (List.nodup_cons.1 hnd).1 (by rw [e]; exact List.mem_append_left _ (List.mem_singleton.2 rfl))
    refine ⟨g, cap, (s.bs.take i).flatMap bkC, (s.bs.drop (i + 1)).flatMap bkC ++ sp, rfl, e, ?_, ?_, ?_⟩
    · rw [bkflat_len, List.length_take, Nat.min_eq_left (Nat.le_of_lt hi)]
    · rw [bkflat_mid hi, List.set_getElem_self]; exact hb
    · intro w' b' h1 h2 h3 k
      have hm := map_mb_set hi h1
      rw [bkflat_mid hi] at h3
      refine ⟨h.blk.keeps k hgp, .inr ⟨g, cap, sp, rfl, by rw [List.length_set]; exact e, h3⟩, fun b hb => ?_, h.whl.keeps k (fun x hx e => h.off g (own_gl (List.mem_singleton.2 rfl)) (e ▸ hx)), ?_, ?_⟩
      · rcases List.mem_or_eq_of_mem_set hb with hb | rfl
        · exact (h.mds b hb).keeps k (hgm b hb)
        · rw [h1, h2]
          exact (h.mds _ (List.getElem_mem hi)).keeps k (hgm _ (List.getElem_mem hi))
      · show (pown pb [g] _).Nodup
        rw [pown_eq hm]; exact h.nod
      · show ∀ x ∈ pown pb [g] _, _
        rw [pown_eq hm]; exact h.off
end
end Go.Proofs.Ytilkfcpdeeaifaa.Rf
