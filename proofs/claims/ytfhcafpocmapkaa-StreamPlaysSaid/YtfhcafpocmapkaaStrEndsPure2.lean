/- Plain: a closed stream stays closed. -/
import Derived.Test.YtfhcafpocmapkaaStrEndsPure
set_option linter.unusedVariables false
set_option linter.unusedSimpArgs false
set_option linter.unusedSectionVars false
namespace Go.Proofs.Ytfhcafpocmapkaa
open Go.RowKit
def Closed (s : PS) (id : Int) : Prop := numberB id = true ∧ aget id s.es = none ∧ id ≤ (if oursB s.server id then s.last1 else s.last0)
def NoFour (s : PS) : Prop := ∀ p ∈ s.es, p.2 ≠ 4
theorem aget_mem {k v : Int} {es : List (Int × Int)} (h : aget k es = some v) : ∃ p ∈ es, p.2 = v := by
  unfold aget at h
  cases hf : es.find? (fun p => p.1 == k) with
  | none => rw [hf] at h; simp at h
  | some p => rw [hf] at h; exact ⟨p, List.mem_of_find?_eq_some hf, by simpa using h⟩
theorem closed_iff {s : PS} (h : NoFour s) (id : Int) : s.state id = 4 ↔ Closed s id := by
  unfold PS.state Closed
  cases hn : numberB id with
  | false => simp
  | true =>
    cases ha : aget id s.es with
    | some v => simp; exact fun e => by obtain ⟨p, hp, hv⟩ := aget_mem ha; exact h p hp (hv.trans e)
    | none =>
      simp only [Bool.true_eq_false, if_false]
      by_cases hq : (if oursB s.server id = true then s.last1 else s.last0) < id
      · simp [hq]
      · rw [if_neg hq]; simp; omega
theorem aget_aput (k k' v : Int) : ∀ es : List (Int × Int), aget k (aput k' v es) = if k = k' then some v else aget k es
  | [] => by
    by_cases h : k = k'
    · simp [aput, aget, h]
    · simp [aput, aget, h]; exact fun e => h e.symm
  | p :: t => by
    have ih := aget_aput k k' v t
    unfold aput
    by_cases h1 : p.1 = k'
    · rw [if_pos h1]
      unfold aget at ih ⊢
      by_cases h : k = k'
      · simp [h]
      · have h2 : (k' == k) = false := by simpa using fun e => h e.symm
        have h3 : (p.1 == k) = false := by rw [h1]; exact h2
        rw [List.find?_cons, List.find?_cons, h2, h3, if_neg h]
    · rw [if_neg h1]
      unfold aget at ih ⊢
      rw [List.find?_cons, List.find?_cons]
      cases h2 : (p.1 == k) with
      | true =>
        have : ¬ k = k' := fun e => h1 (by rw [← e]; simpa using h2)
        simp [this]
      | false => exact ih
theorem aget_adel_none {k k' : Int} : ∀ {es : List (Int × Int)}, aget k es = none → aget k (adel k' es) = none
  | [], h => h
  | p :: t, h => by
    unfold aget at h ⊢
    rw [List.find?_cons] at h
    cases h2 : (p.1 == k) with
    | true => rw [h2] at h; simp at h
    | false =>
      rw [h2] at h
      unfold adel
      split
      · exact h
      · rw [List.find?_cons, h2]
        exact aget_adel_none (k := k) (k' := k') (es := t) h
theorem mem_aput {k v : Int} {q : Int × Int} : ∀ {es : List (Int × Int)}, q ∈ aput k v es → q = (k, v) ∨ q ∈ es
  | [], h => by simpa [aput] using h
  | p :: t, h => by
    unfold aput at h
    split at h
    · rcases List.mem_cons.1 h with h | h
      · exact .inl h
      · exact .inr (List.mem_cons_of_mem _ h)
    · rcases List.mem_cons.1 h with h | h
      · exact .inr (h ▸ List.mem_cons_self ..)
      · exact (mem_aput h).imp id (List.mem_cons_of_mem _)
theorem mem_adel {k : Int} {q : Int × Int} : ∀ {es : List (Int × Int)}, q ∈ adel k es → q ∈ es
  | [], h => h
  | p :: t, h => by
    unfold adel at h
    split at h
    · exact List.mem_cons_of_mem _ h
    · rcases List.mem_cons.1 h with h | h
      · exact h ▸ List.mem_cons_self ..
      · exact List.mem_cons_of_mem _ (mem_adel h)
theorem NoFour.play {s : PS} (h : NoFour s) (what id n : Int) : NoFour (s.play what id n) := by
  have hp : ∀ k v, v ≠ 4 → ∀ p ∈ aput k v s.es, p.2 ≠ 4 := fun k v hv p hp => by
    rcases mem_aput hp with rfl | h2
    · exact hv
    · exact h p h2
  have hd : ∀ k, ∀ p ∈ adel k s.es, p.2 ≠ 4 := fun k p hp => h p (mem_adel hp)
  unfold PS.play
  split
  · unfold PS.peer
    split
    · exact h
    split
    · exact h
    · exact hp id 0 (by decide)
  split
  · unfold PS.own
    split
    · exact h
    split
    · exact h
    · exact hp _ 0 (by decide)
  split
  · unfold PS.do
    split
    · exact h
    split
    · exact h
    simp only []
    split
    · exact h
    split
    · exact h
    split
    · exact h
    split
    · exact h
    split
    · rename_i h4
      exact hp id _ h4
    split
    · exact hd id
    · exact hd id
  · unfold PS.limit
    split
    · exact h
    · exact h
theorem Closed.play {s : PS} {sv : Bool} {may k : Nat} (hi : PI sv may k s) {i : Int} (h : Closed s i) (what id n : Int) : Closed (s.play what id n) i := by
  obtain ⟨h1, h2, h3⟩ := h
  have hsame : Closed s i := ⟨h1, h2, h3⟩
  have hne : (aget id s.es).isSome = true → i ≠ id := fun ha e => by rw [← e, h2] at ha; cases ha
  unfold PS.play
  split
  · unfold PS.peer
    split
    · exact hsame
    rename_i hq
    have ho : oursB s.server id = false := by
      cases ho : oursB s.server id with
      | false => rfl
      | true => exact absurd (.inr (.inl ho)) hq
    have hl : s.last0 < id := by rcases Int.lt_or_le s.last0 id with h | h; exact h; exact absurd (.inr (.inr h)) hq
    have h4 : i ≤ (if oursB s.server i then s.last1 else id) := by
      split
      · rename_i ht; rw [if_pos ht] at h3; exact h3
      · rename_i ht; rw [if_neg ht] at h3; omega
    split
    · exact ⟨h1, h2, h4⟩
    · refine ⟨h1, ?_, h4⟩
      show aget i (aput id 0 s.es) = none
      rw [aget_aput, if_neg (fun e => ?_)]
      · exact h2
      · rw [← e] at ho hl
        rw [ho] at h3
        simp at h3
        omega
  split
  · obtain ⟨o1, o2⟩ := own_next hi
    unfold PS.own
    split
    · exact hsame
    split
    · exact hsame
    · refine ⟨h1, ?_, ?_⟩
      · show aget i (aput s.ownNext 0 s.es) = none
        rw [aget_aput, if_neg (fun e => ?_)]
        · exact h2
        · rw [e, o2] at h3
          simp at h3
          omega
      · show i ≤ (if oursB s.server i then s.ownNext else s.last0)
        split
        · rename_i ht; rw [if_pos ht] at h3; omega
        · rename_i ht; rw [if_neg ht] at h3; exact h3
  split
  · unfold PS.do
    split
    · exact hsame
    split
    · exact hsame
    simp only []
    split
    · exact hsame
    split
    · exact hsame
    split
    · exact hsame
    split
    · exact hsame
    rename_i hg
    have hg' : i ≠ id := hne (by cases h9 : (aget id s.es).isSome with | true => rfl | false => exact absurd h9 hg)
    split
    · refine ⟨h1, ?_, h3⟩
      show aget i (aput id _ s.es) = none
      rw [aget_aput, if_neg hg']; exact h2
    split
    · exact ⟨h1, aget_adel_none h2, h3⟩
    · exact ⟨h1, aget_adel_none h2, h3⟩
  · unfold PS.limit
    split
    · exact hsame
    · exact ⟨h1, h2, h3⟩
end Go.Proofs.Ytfhcafpocmapkaa
