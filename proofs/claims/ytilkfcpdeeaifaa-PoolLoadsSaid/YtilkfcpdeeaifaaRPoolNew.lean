/- The walk of the reference pool's New: what is being made. -/
import Derived.Test.YtilkfcpdeeaifaaRPoolTick
import Derived.Test.YtilkfcpdeeaifaaPoolMake
set_option linter.unusedVariables false
set_option linter.unusedSimpArgs false
set_option linter.unusedSectionVars false
namespace Go.Proofs.Ytilkfcpdeeaifaa.Rf
open Go.RowKit Go.Sort
set_option maxHeartbeats 1000000 in
set_option maxRecDepth 100000 in
theorem hnew_any (f r h : Int) (hf : 1 ≤ f ∧ f ≤ 1000) (hr : 1 ≤ r ∧ r ≤ 1000) (hh : 0 ≤ h ∧ h ≤ 1073741824) (w : World) :
    Calls Try.prog 33 #[.agg #[.int .i64 f, .int .i64 r, .int .i64 h]] w fun e w' => ∃ mb, e = .returned (.tuple #[.pointer (some ⟨mb, 0, none⟩), .int .i64 0]) ∧ BlockIs w' mb (mdR ⟨f, r, h, 0, 0, 0⟩) ∧ w.heap.size ≤ mb ∧ Below w.heap.size w w' := by
  obtain ⟨hf1, hf2⟩ := hf
  obtain ⟨hr1, hr2⟩ := hr
  obtain ⟨hh1, hh2⟩ := hh
  go_enter Try.func33, Try.ntmps33
  go_wp2_with fail
  try go_region
  try go_wp2_with fail
  go_ret2
  exact ⟨_, rfl, BlockIs.new' (mdR ⟨f, r, h, 0, 0, 0⟩) _ (by simp), by simp, below_al (below_al (Below.refl _ _) _) _⟩
/-- A pool that is being made: its row may still grow. -/
structure NewAt (base : Nat) (w : World) (pb xb : Nat) (sv : Value) (v : Value) (s : PS) : Prop where
  blk : BlockIs w pb [v, .pointer (some ⟨xb, 0, none⟩), .int .i64 s.retry, .int .i64 s.most]
  row : w.ownsRow base 76 5 v s.bs.length (s.bs.flatMap bkC)
  mds : ∀ b ∈ s.bs, BlockIs w b.mb (mdR b.md)
  whl : RefAt base w xb sv s.W
  nod : (pown pb v.ownBlock.toList s.bs).Nodup
  off : ∀ x ∈ pown pb v.ownBlock.toList s.bs, ¬ rfoot xb sv x
  lo : ∀ x, pfoot pb v.ownBlock.toList s.bs xb sv x → base ≤ x
section
variable {base : Nat} {w : World} {pb xb : Nat} {sv : Value} {v : Value} {s : PS}
theorem NewAt.own_lt (h : NewAt base w pb xb sv v s) {x : Nat} (hx : x ∈ pown pb v.ownBlock.toList s.bs) : x < w.heap.size := by
  rcases List.mem_cons.1 hx with rfl | hx
  · exact h.blk.lt
  · rcases List.mem_append.1 hx with hx | hx
    · exact (World.ownsRow.lt h.row x (by simpa using hx)).2
    · obtain ⟨b, hb, rfl⟩ := List.mem_map.1 hx
      exact (h.mds b hb).lt
/-- The pool, made. -/
theorem NewAt.done (h : NewAt base w pb xb sv v s) : PoolAt base w pb xb v.ownBlock.toList sv v s := by
  refine ⟨h.blk, ?_, h.mds, h.whl, h.nod, h.off⟩
  rcases h.row.2 with ⟨rfl, h0⟩ | ⟨g, cap, cur, rfl, hb, hgg, hn, hcm, hcs, htk⟩
  · exact .inl ⟨rfl, rfl, List.eq_nil_of_length_eq_zero h0⟩
  · refine .inr ⟨g, cap, cur.toList.drop (s.bs.length * 5), rfl, rfl, 76, ?_⟩
    rw [← htk, List.take_append_drop]
    exact hgg
/-- One more backend. -/
theorem NewAt.push {w1 w2 : World} {mb g' cap' : Nat} {md : Md} {wt : Int} {ob : Obj} (h : NewAt base w pb xb sv v s) (hbase : base ≤ w.heap.size) (hb1 : Below w.heap.size w w1) (hmb : BlockIs w1 mb (mdR md)) (hm : w.heap.size ≤ mb)
    (hg : (w1.alloc ob).grownBy w2 v.ownBlock) (ho : w2.ownsRow base 76 5 (.slice (some ⟨g', 0, none⟩) (s.bs.length + 1) cap') (s.bs.length + 1) (s.bs.flatMap bkC ++ bkC ⟨mb, md, 0, 0, 0, wt⟩)) (hn : v.ownBlock = some g' ∨ (w1.alloc ob).heap.size ≤ g') :
    NewAt base (w2.setCell ⟨pb, 0, none⟩ (.slice (some ⟨g', 0, none⟩) (s.bs.length + 1) cap')) pb xb sv (.slice (some ⟨g', 0, none⟩) (s.bs.length + 1) cap') { s with bs := s.bs ++ [⟨mb, md, 0, 0, 0, wt⟩] } := by
  have hs1 : w1.heap.size < (w1.alloc ob).heap.size := by simp
  have hs0 := hb1.size
  have hml := hmb.lt
  have k1 : Keeps (fun x => v.ownBlock = some x) w w2 := ((Keeps.of_below hb1).alloc ob).grown hg (fun x e => .inl e.symm.symm)
  have k2 : Keeps (fun x => v.ownBlock = some x ∨ x = pb) w (w2.setCell ⟨pb, 0, none⟩ (.slice (some ⟨g', 0, none⟩) (s.bs.length + 1) cap')) := (k1.mono (fun x e => .inl (.inl e))).set1 (.inr rfl) _ _
  have hnd := h.nod
  unfold pown at hnd
  rw [List.nodup_cons, List.nodup_append] at hnd
  obtain ⟨hp, _, hmn, hgm⟩ := hnd
  have hpg : ∀ x, v.ownBlock = some x → x ≠ pb := fun x hx e => hp (List.mem_append_left _ (by rw [hx, e]; simp))
  have hmp : ∀ b ∈ s.bs, b.mb ≠ pb := fun b hb e => hp (List.mem_append_right _ (e ▸ List.mem_map_of_mem hb))
  have hmg : ∀ b ∈ s.bs, ∀ x, v.ownBlock = some x → b.mb ≠ x := fun b hb x hx e => hgm x (by rw [hx]; simp) _ (List.mem_map_of_mem hb) e.symm
  have hpl := h.blk.lt
  have hgl : ∀ x, v.ownBlock = some x → x < w.heap.size := fun x hx => (World.ownsRow.lt h.row x hx).2
  have hg'1 : g' ≠ pb := by rcases hn with e | e; · exact hpg _ e
                            · omega
  have hg'2 : ∀ b ∈ s.bs, g' ≠ b.mb := fun b hb => by
    rcases hn with e | e
    · exact fun e2 => hmg b hb g' e e2.symm
    · have := (h.mds b hb).lt; omega
  have hg'3 : g' ≠ mb := by rcases hn with e | e; · have := hgl g' e; omega
                            · omega
  have hfo : ∀ x, rfoot xb sv x → v.ownBlock ≠ some x := fun x hx e => h.off x (own_gl (by rw [e]; simp)) hx
  have hg'4 : ¬ rfoot xb sv g' := fun hx => by
    rcases hn with e | e
    · exact hfo g' hx e
    · have := h.whl.foot_lt hx; omega
  refine ⟨?_, ?_, ?_, ?_, ?_, ?_, ?_⟩
  · have h1 := (h.blk.keeps k1 (fun e => hpg pb e rfl)).set 0 (.slice (some ⟨g', 0, none⟩) (s.bs.length + 1) cap')
    exact h1
  · show World.ownsRow _ _ _ _ _ (s.bs ++ [_]).length ((s.bs ++ [_]).flatMap bkC)
    rw [List.length_append, List.flatMap_append, List.flatMap_singleton]
    refine ⟨ho.1, ?_⟩
    rcases ho.2 with ⟨e, _⟩ | ⟨g, cap, cur, e, hb, hgg, rest⟩
    · cases e
    · cases e
      exact .inr ⟨g', cap', cur, rfl, hb, (Below.heap_setCell _ _ _ _ (show g' ≠ pb from hg'1)).trans hgg, rest⟩
  · intro b hb
    rcases List.mem_append.1 hb with hb | hb
    · exact (h.mds b hb).keeps k2 (fun e => e.elim (fun e => hmg b hb _ e rfl) (hmp b hb))
    · rw [List.mem_singleton] at hb
      subst hb
      have h1 : BlockIs w2 mb (mdR md) := (hmb.alloc ob).of_same (hg.block mb (by omega) (fun e => by have := hgl mb e.symm; omega))
      exact h1.far (by show mb ≠ pb; omega) _
  · exact h.whl.keeps k2 (fun x hx e => e.elim (hfo x hx) (fun e => h.off pb own_pb (e ▸ hx)))
  · show (pown pb [g'] (s.bs ++ [_])).Nodup
    unfold pown
    rw [List.map_append, List.nodup_cons, List.nodup_append]
    refine ⟨?_, by simp, ?_, ?_⟩
    · simp only [List.mem_append, List.mem_singleton, List.map_cons, List.map_nil, List.mem_map, not_or, not_exists, not_and]
      exact ⟨fun e => hg'1 e.symm, fun b hb => hmp b hb, by omega⟩
    · rw [List.nodup_append]
      refine ⟨hmn, by simp, ?_⟩
      intro a ha c hc
      obtain ⟨b, hb, rfl⟩ := List.mem_map.1 ha
      simp at hc
      subst hc
      have := (h.mds b hb).lt
      omega
    · intro a ha c hc
      simp at ha
      subst ha
      rcases List.mem_append.1 hc with hc | hc
      · obtain ⟨b, hb, rfl⟩ := List.mem_map.1 hc
        exact hg'2 b hb
      · simp at hc; subst hc; exact hg'3
  · intro x hx
    rcases List.mem_cons.1 hx with rfl | hx
    · exact h.off x own_pb
    · rcases List.mem_append.1 hx with hx | hx
      · have : x = g' := by simpa [Value.ownBlock] using hx
        subst this; exact hg'4
      · obtain ⟨b, hb, rfl⟩ := List.mem_map.1 hx
        rcases List.mem_append.1 hb with hb | hb
        · exact h.off _ (own_mb hb)
        · rw [List.mem_singleton] at hb
          subst hb
          intro hf
          have := h.whl.foot_lt hf
          show False
          have : mb < w.heap.size := this
          omega
  · intro x hx
    rcases hx with hx | hx
    · rcases List.mem_cons.1 hx with rfl | hx
      · exact h.lo x (.inl own_pb)
      · rcases List.mem_append.1 hx with hx | hx
        · have : x = g' := by simpa [Value.ownBlock] using hx
          subst this
          exact (World.ownsRow.lt ho x rfl).1
        · obtain ⟨b, hb, rfl⟩ := List.mem_map.1 hx
          rcases List.mem_append.1 hb with hb | hb
          · exact h.lo _ (.inl (own_mb hb))
          · rw [List.mem_singleton] at hb
            subst hb
            show base ≤ mb
            omega
    · exact h.lo x (.inr hx)
theorem NewAt.wheel {w' : World} {e : Ending} {r : Value} {W' : PW} (h : NewAt base w pb xb sv v s) (hbase : base ≤ w.heap.size) (hp : RPost base xb sv W' r w e w') : e = .returned r ∧ (∃ sv', NewAt base w' pb xb sv' v { s with W := W' }) ∧ Keeps (rfoot xb sv) w w' := by
  obtain ⟨sv', he, h1, h2, h3⟩ := hp
  have hof : ∀ x, rfoot xb sv' x → x ∈ pown pb v.ownBlock.toList s.bs → False := fun x hf hx => by
    rcases h2 x hf with h4 | h4
    · exact h.off x hx h4
    · have := h.own_lt hx; omega
  refine ⟨he, ⟨sv', h.blk.keeps h3 (h.off _ own_pb), ?_, fun b hb => (h.mds b hb).keeps h3 (h.off _ (own_mb hb)), h1, h.nod, fun x hx hf => hof x hf hx, fun x hx => ?_⟩, h3⟩
  · refine ⟨h.row.1, ?_⟩
    rcases h.row.2 with hn | ⟨g, cap, cur, e, hb, hgg, rest⟩
    · exact .inl hn
    · exact .inr ⟨g, cap, cur, e, hb, (h3.block g (Array.getElem?_eq_some_iff.1 hgg).1 (h.off g (own_gl (by rw [e]; simp [Value.ownBlock])))).trans hgg, rest⟩
  · rcases hx with hx | hx
    · exact h.lo x (.inl hx)
    · rcases h2 x hx with h4 | h4
      · exact h.lo x (.inr h4)
      · omega
end
end Go.Proofs.Ytilkfcpdeeaifaa.Rf
