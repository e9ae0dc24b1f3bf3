/- Plain: every op keeps the relation of both streams, and both answer the same. -/
import Derived.Test.YtfhcafpocmapkaaStrSame2
set_option linter.unusedVariables false
set_option linter.unusedSimpArgs false
set_option linter.unusedSectionVars false
namespace Go.Proofs.Ytfhcafpocmapkaa
open Go.RowKit
theorem SR.peer {s : PS} {r : RS} (h : SR s r) (id : Int) : SR (s.peer id).1 (r.peer id).1 ∧ (s.peer id).2 = (r.peer id).2 := by
  have hnf : NoFour (s.peer id).1 := by have := h.nf.play 0 id 0; simpa [PS.play] using this
  have hc := h.count false
  simp only [Bool.false_eq_true, if_false] at hc
  unfold PS.peer at hnf ⊢
  unfold RS.peer
  rw [h.sv, h.l0, h.m0, hc]
  by_cases hq : numberB id = false ∨ oursB s.server id = true ∨ id ≤ s.last0
  · rw [if_pos hq, if_pos hq]
    exact ⟨h, rfl⟩
  rw [if_neg hq] at hnf
  rw [if_neg hq, if_neg hq]
  have hn : numberB id = true := by cases hn : numberB id with | true => rfl | false => exact absurd (.inl hn) hq
  have ho : oursB s.server id = false := by cases ho : oursB s.server id with | false => rfl | true => exact absurd (.inr (.inl ho)) hq
  have hl : s.last0 < id := by rcases Int.lt_or_le s.last0 id with h | h; exact h; exact absurd (.inr (.inr h)) hq
  have h0 : id ≠ 0 := by unfold numberB at hn; rw [decide_eq_true_iff] at hn; omega
  have hlow : ∀ k ∈ keys s.es, numberB k = true ∧ k ≤ (if oursB s.server k then s.last1 else id) := fun k hk => by
    obtain ⟨a, b⟩ := h.low k hk
    refine ⟨a, ?_⟩
    split
    · rename_i ht; rw [if_pos ht] at b; exact b
    · rename_i ht; rw [if_neg ht] at b; omega
  by_cases hc2 : s.may0 ≤ s.count 0
  · rw [if_pos hc2] at hnf
    rw [if_pos hc2, if_pos hc2]
    exact ⟨⟨(by first | rfl | exact h.sv), (by first | rfl | exact h.m0), (by first | rfl | exact h.m1), rfl, (by first | rfl | exact h.l1), h.o0, h.perm, h.srt, hlow, hnf, h.ring.drop h0⟩, rfl⟩
  · rw [if_neg hc2] at hnf
    rw [if_neg hc2, if_neg hc2]
    have hfr : id ∉ keys s.es := fun hm => by
      have := (h.low id hm).2
      rw [ho] at this
      simp at this
      omega
    have hfr2 : id ∉ keys r.es := fun hm => hfr ((h.perm.map (·.1)).mem_iff.1 hm)
    refine ⟨⟨(by first | rfl | exact h.sv), (by first | rfl | exact h.m0), (by first | rfl | exact h.m1), rfl, (by first | rfl | exact h.l1), h.o0, ?_, rput_sorted h.srt hfr2, ?_, hnf, h.ring⟩, rfl⟩
    · show (rput id r.es).Perm (aput id 0 s.es)
      rw [aput_fresh hfr]
      exact (rput_perm id r.es).trans ((h.perm.cons _).trans (List.perm_append_singleton _ _).symm)
    · intro k hk
      rw [show keys (aput id 0 s.es) = keys s.es ++ [id] by rw [aput_fresh hfr]; simp [keys]] at hk
      rcases List.mem_append.1 hk with hk | hk
      · exact hlow k hk
      · rw [List.mem_singleton.1 hk]
        refine ⟨hn, ?_⟩
        rw [ho]; simp
theorem SR.own {s : PS} {r : RS} (h : SR s r) (hnx : s.last1 < s.ownNext ∧ oursB s.server s.ownNext = true) : SR s.own.1 r.own.1 ∧ s.own.2 = r.own.2 := by
  have hnf : NoFour s.own.1 := by have := h.nf.play 1 0 0; simpa [PS.play] using this
  have hc := h.count true
  simp only [if_true] at hc
  have hon : r.ownNext = s.ownNext := by unfold RS.ownNext PS.ownNext; rw [h.l1, h.sv]
  unfold PS.own at hnf ⊢
  unfold RS.own
  rw [h.m1, hc, hon]
  by_cases hc2 : s.may1 ≤ s.count 1
  · rw [if_pos hc2, if_pos hc2]
    exact ⟨h, rfl⟩
  rw [if_neg hc2] at hnf
  rw [if_neg hc2, if_neg hc2]
  have h0 := h.o0
  by_cases hb : 2147483647 < s.ownNext
  · have hn : numberB s.ownNext = false := by unfold numberB; rw [decide_eq_false_iff_not]; omega
    rw [if_pos hn, if_pos hb]
    exact ⟨h, rfl⟩
  · have hn : numberB s.ownNext = true := by unfold numberB; rw [decide_eq_true_iff]; omega
    have hn' : ¬ numberB s.ownNext = false := by rw [hn]; simp
    rw [if_neg hn'] at hnf
    rw [if_neg hn', if_neg hb]
    have hfr : s.ownNext ∉ keys s.es := fun hm => by
      have := (h.low _ hm).2
      rw [hnx.2] at this
      simp at this
      omega
    have hfr2 : s.ownNext ∉ keys r.es := fun hm => hfr ((h.perm.map (·.1)).mem_iff.1 hm)
    refine ⟨⟨(by first | rfl | exact h.sv), (by first | rfl | exact h.m0), (by first | rfl | exact h.m1), (by first | rfl | exact h.l0), rfl, by show 0 ≤ s.ownNext; omega, ?_, rput_sorted h.srt hfr2, ?_, hnf, h.ring⟩, rfl⟩
    · show (rput s.ownNext r.es).Perm (aput s.ownNext 0 s.es)
      rw [aput_fresh hfr]
      exact (rput_perm _ r.es).trans ((h.perm.cons _).trans (List.perm_append_singleton _ _).symm)
    · intro k hk
      rw [show keys (aput s.ownNext 0 s.es) = keys s.es ++ [s.ownNext] by rw [aput_fresh hfr]; simp [keys]] at hk
      rcases List.mem_append.1 hk with hk | hk
      · obtain ⟨a, b⟩ := h.low k hk
        refine ⟨a, ?_⟩
        show k ≤ (if oursB s.server k then s.ownNext else s.last0)
        split
        · rename_i ht; rw [if_pos ht] at b; omega
        · rename_i ht; rw [if_neg ht] at b; exact b
      · rw [List.mem_singleton.1 hk]
        refine ⟨hn, ?_⟩
        show s.ownNext ≤ (if oursB s.server s.ownNext then s.ownNext else s.last0)
        rw [hnx.2]; simp
theorem SR.limit {s : PS} {r : RS} (h : SR s r) (most : Int) : SR (s.limit most).1 (r.limit most).1 ∧ (s.limit most).2 = (r.limit most).2 := by
  unfold PS.limit RS.limit
  by_cases hm : most < 0
  · rw [if_pos hm, if_pos hm]; exact ⟨h, rfl⟩
  · rw [if_neg hm, if_neg hm]
    exact ⟨⟨h.sv, h.m0, rfl, h.l0, h.l1, h.o0, h.perm, h.srt, h.low, h.nf, h.ring⟩, rfl⟩
theorem SR.put {s : PS} {r : RS} (h : SR s r) {id v : Int} (hv : v ≠ 4) (hs : (aget id s.es).isSome = true) : SR { s with es := aput id v s.es } { r with es := aput id v r.es } := by
  have hm : id ∈ keys s.es := by
    cases hd : decide (id ∈ keys s.es) with
    | true => exact of_decide_eq_true hd
    | false => rw [aget_none.2 (of_decide_eq_false hd)] at hs; cases hs
  have hm2 : id ∈ keys r.es := (h.perm.map (·.1)).mem_iff.2 hm
  refine ⟨h.sv, h.m0, h.m1, h.l0, h.l1, h.o0, ?_, ?_, ?_, fun p hp => ?_, h.ring⟩
  · show (aput id v r.es).Perm (aput id v s.es)
    rw [aput_map h.nodup hm2, aput_map h.nodup' hm]
    exact h.perm.map _
  · show (keys (aput id v r.es)).Pairwise (· < ·)
    rw [keys_aput hm2]; exact h.srt
  · show ∀ k ∈ keys (aput id v s.es), _
    rw [keys_aput hm]; exact h.low
  · rcases mem_aput hp with rfl | h2
    · exact hv
    · exact h.nf p h2
theorem keys_adel_sub {k : Int} {es : List (Int × Int)} : (keys (adel k es)).Sublist (keys es) := by
  induction es with
  | nil => exact List.Sublist.refl _
  | cons p t ih =>
    unfold adel
    split
    · exact (List.Sublist.refl _).cons _
    · exact ih.cons_cons _
theorem SR.del {s : PS} {r : RS} (h : SR s r) (id : Int) : SR { s with es := adel id s.es } { r with es := adel id r.es } := by
  refine ⟨h.sv, h.m0, h.m1, h.l0, h.l1, h.o0, ?_, ?_, ?_, fun p hp => h.nf p (mem_adel hp), h.ring⟩
  · show (adel id r.es).Perm (adel id s.es)
    rw [adel_filter h.nodup, adel_filter h.nodup']
    exact h.perm.filter _
  · exact h.srt.sublist keys_adel_sub
  · intro k hk
    exact h.low k (keys_adel_sub.subset hk)
theorem SR.drop {s : PS} {r : RS} (h : SR s r) {id : Int} (h0 : id ≠ 0) : SR (s.drop id) (r.drop id) :=
  ⟨h.sv, h.m0, h.m1, h.l0, h.l1, h.o0, h.perm, h.srt, h.low, h.nf, h.ring.drop h0⟩
theorem SR.do {s : PS} {r : RS} (h : SR s r) (id what : Int) : SR (s.do id what).1 (r.do id what).1 ∧ (s.do id what).2 = (r.do id what).2 := by
  unfold PS.do RS.do
  rw [← h.dropped id, ← h.state id, h.get id]
  by_cases h1 : numberB id = false
  · rw [if_pos h1, if_pos h1]; exact ⟨h, rfl⟩
  rw [if_neg h1, if_neg h1]
  have h0 : id ≠ 0 := fun e => h1 (by subst e; decide)
  by_cases h2 : s.dropped id = true ∧ 0 ≤ what ∧ what ≤ 4
  · rw [if_pos h2, if_pos h2]; exact ⟨h, rfl⟩
  rw [if_neg h2, if_neg h2]
  simp only []
  generalize stepF (s.state id) what = q
  by_cases h3 : q.err ≠ 0
  · rw [if_pos h3, if_pos h3]; exact ⟨h, rfl⟩
  rw [if_neg h3, if_neg h3]
  by_cases h4 : q.kind = 1
  · rw [if_pos h4, if_pos h4]; exact ⟨h, rfl⟩
  rw [if_neg h4, if_neg h4]
  by_cases h5 : q.kind = 2
  · rw [if_pos h5, if_pos h5]; exact ⟨h, rfl⟩
  rw [if_neg h5, if_neg h5]
  by_cases h6 : (aget id s.es).isSome = false
  · rw [if_pos h6, if_pos h6]; exact ⟨h, rfl⟩
  rw [if_neg h6, if_neg h6]
  by_cases h7 : q.next ≠ 4
  · rw [if_pos h7, if_pos h7]
    exact ⟨h.put h7 (by cases h9 : (aget id s.es).isSome with | true => rfl | false => exact absurd h9 h6), rfl⟩
  rw [if_neg h7, if_neg h7]
  by_cases h8 : what = 8
  · rw [if_pos h8, if_pos h8]; exact ⟨(h.del id).drop h0, rfl⟩
  · rw [if_neg h8, if_neg h8]; exact ⟨h.del id, rfl⟩
theorem SR.play {server : Bool} {may k : Nat} {s : PS} {r : RS} (h : SR s r) (hi : PI server may k s) (what id n : Int) : SR (s.play what id n) (r.play what id n) ∧ agree s r what id n := by
  unfold PS.play RS.play agree
  by_cases k0 : what = 0
  · simp only [k0, if_true]; exact h.peer id
  · by_cases k1 : what = 1
    · simp only [k1]; exact h.own (own_next hi)
    · by_cases k2 : what = 2
      · simp only [k2]; exact h.do id n
      · simp only [k0, k1, k2, if_false]; exact h.limit n
theorem sr_new (server : Bool) (most : Int) : SR (PS.new server most) (RS.new server most) :=
  ⟨rfl, rfl, rfl, rfl, rfl, Int.le_refl 0, List.Perm.refl _, List.Pairwise.nil, (fun k hk => by cases hk), (fun p hp => by cases hp), Ring.new⟩
end Go.Proofs.Ytfhcafpocmapkaa
