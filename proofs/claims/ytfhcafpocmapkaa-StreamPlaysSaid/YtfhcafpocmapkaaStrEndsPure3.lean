/- Plain: the reference's bounds behind any ops. -/
import Derived.Test.YtfhcafpocmapkaaStrEndsPure2
set_option linter.unusedVariables false
set_option linter.unusedSimpArgs false
set_option linter.unusedSectionVars false
namespace Go.Proofs.Ytfhcafpocmapkaa
open Go.RowKit
structure RI (most : Nat) (r : RS) : Prop where
  mo : r.most = most
  mi : r.mine ≤ 1024
  c0 : cnt (fun x => oursB r.server x == false) r.es ≤ most
  c1 : cnt (fun x => oursB r.server x == true) r.es ≤ 1024
  ou : 0 ≤ r.ours ∧ r.ours ≤ 2147483647 ∧ (r.ours = 0 ∨ oursB r.server r.ours = true)
  nf : ∀ p ∈ r.es, p.2 ≠ 4
theorem rs_count {r : RS} (h : ∀ p ∈ r.es, p.2 ≠ 4) (own : Bool) : r.count own = cnt (fun x => oursB r.server x == own) r.es := by
  unfold RS.count cnt
  congr 1
  apply List.filter_congr
  intro p hp
  simp [h p hp]
theorem cnt_rput (f : Int → Bool) (id : Int) : ∀ l : List (Int × Int), cnt f (rput id l) = cnt f l + (if f id then 1 else 0)
  | [] => by show cnt f [(id, 0)] = _; rw [cnt_cons]; simp [cnt]
  | p :: t => by
    have ih := cnt_rput f id t
    unfold rput
    split
    · rw [cnt_cons, cnt_cons]; simp only []; omega
    · rw [cnt_cons, cnt_cons, ih]; omega
theorem mem_rput {id : Int} {q : Int × Int} : ∀ {l : List (Int × Int)}, q ∈ rput id l → q = (id, 0) ∨ q ∈ l
  | [], h => by simpa [rput] using h
  | p :: t, h => by
    unfold rput at h
    split at h
    · rcases List.mem_cons.1 h with h | h
      · exact .inl h
      · exact .inr h
    · rcases List.mem_cons.1 h with h | h
      · exact .inr (h ▸ List.mem_cons_self ..)
      · exact (mem_rput h).imp (fun e => e) (List.mem_cons_of_mem _)
theorem cnt_two' (sv : Bool) (es : List (Int × Int)) : es.length = cnt (fun x => oursB sv x == false) es + cnt (fun x => oursB sv x == true) es := by
  induction es with
  | nil => rfl
  | cons p t ih =>
    rw [cnt_cons, cnt_cons, List.length_cons, ih]
    cases oursB sv p.1 <;> simp <;> omega
theorem RI.len {most : Nat} {r : RS} (h : RI most r) : r.es.length ≤ most + 1024 := by
  have h0 := h.c0
  have h1 := h.c1
  rw [cnt_two' r.server r.es]
  omega
theorem RI.less {most : Nat} {r : RS} (h : RI most r) {es : List (Int × Int)} (he : ∀ f, cnt f es ≤ cnt f r.es) (hn : ∀ p ∈ es, p.2 ≠ 4) : RI most { r with es := es } :=
  ⟨h.mo, h.mi, Nat.le_trans (he (fun x => oursB r.server x == false)) h.c0, Nat.le_trans (he (fun x => oursB r.server x == true)) h.c1, h.ou, hn⟩
theorem RI.drop {most : Nat} {r : RS} (h : RI most r) (id : Int) : RI most (r.drop id) := ⟨h.mo, h.mi, h.c0, h.c1, h.ou, h.nf⟩
theorem rown_next {most : Nat} {r : RS} (h : RI most r) : r.ours < r.ownNext ∧ oursB r.server r.ownNext = true := by
  obtain ⟨h1, h2, h3⟩ := h.ou
  unfold RS.ownNext
  split
  · rename_i hz
    rw [hz.1, hz.2]
    exact ⟨by decide, by decide⟩
  · rename_i hz
    refine ⟨by omega, ?_⟩
    rcases h3 with h3 | h3
    · cases hb : r.server with
      | false => exact absurd ⟨h3, hb⟩ hz
      | true => rw [h3]; decide
    · unfold oursB at h3 ⊢
      rw [show (r.ours + 2).tmod 2 = r.ours.tmod 2 by rw [Int.tmod_eq_emod_of_nonneg (by omega), Int.tmod_eq_emod_of_nonneg (by omega)]; omega]
      exact h3
theorem RI.play {most : Nat} {r : RS} (h : RI most r) (what id n : Int) : RI most (r.play what id n) := by
  have hr : ∀ k, ∀ p ∈ rput k r.es, p.2 ≠ 4 := fun k p hp => by
    rcases mem_rput hp with rfl | h2
    · show (0 : Int) ≠ 4; decide
    · exact h.nf p h2
  unfold RS.play
  split
  · unfold RS.peer
    split
    · exact h
    rename_i hq
    have ho : oursB r.server id = false := by
      cases ho : oursB r.server id with
      | false => rfl
      | true => exact absurd (.inr (.inl ho)) hq
    split
    · exact (⟨h.mo, h.mi, h.c0, h.c1, h.ou, h.nf⟩ : RI most { r with theirs := id }).drop id
    · rename_i hc
      rw [rs_count h.nf, h.mo] at hc
      refine ⟨h.mo, h.mi, ?_, ?_, h.ou, hr id⟩
      · show cnt (fun x => oursB r.server x == false) (rput id r.es) ≤ most
        rw [cnt_rput]; simp only [ho, beq_self_eq_true, if_true]; omega
      · show cnt (fun x => oursB r.server x == true) (rput id r.es) ≤ 1024
        have := h.c1
        rw [cnt_rput]; simp [ho]; simpa using this
  split
  · obtain ⟨o1, o2⟩ := rown_next h
    unfold RS.own
    split
    · exact h
    rename_i hc
    split
    · exact h
    rename_i hn
    rw [rs_count h.nf] at hc
    have mi := h.mi
    refine ⟨h.mo, h.mi, ?_, ?_, ⟨by have := h.ou.1; show 0 ≤ r.ownNext; omega, by show r.ownNext ≤ _; omega, .inr o2⟩, hr _⟩
    · show cnt (fun x => oursB r.server x == false) (rput r.ownNext r.es) ≤ most
      have := h.c0
      rw [cnt_rput]; simp [o2]; simpa using this
    · show cnt (fun x => oursB r.server x == true) (rput r.ownNext r.es) ≤ 1024
      rw [cnt_rput]; simp only [o2, beq_self_eq_true, if_true]; omega
  split
  · have hd : ∀ p ∈ adel id r.es, p.2 ≠ 4 := fun p hp => h.nf p (mem_adel hp)
    unfold RS.do
    split
    · exact h
    split
    · exact h
    simp only []
    split
    · exact h
    split
    · exact h
    split
    · exact h
    split
    · exact h
    rename_i hg
    split
    · rename_i h4
      refine h.less (fun f => Nat.le_of_eq (cnt_aput_same f _ _ _ (by cases h9 : (aget id r.es).isSome with | true => rfl | false => exact absurd h9 hg))) (fun p hp => ?_)
      rcases mem_aput hp with rfl | h2
      · exact h4
      · exact h.nf p h2
    split
    · exact (h.less (fun f => cnt_adel f _ _) hd).drop _
    · exact h.less (fun f => cnt_adel f _ _) hd
  · unfold RS.limit
    split
    · exact h
    · exact ⟨h.mo, Int.min_le_right _ _, h.c0, h.c1, h.ou, h.nf⟩
end Go.Proofs.Ytfhcafpocmapkaa
