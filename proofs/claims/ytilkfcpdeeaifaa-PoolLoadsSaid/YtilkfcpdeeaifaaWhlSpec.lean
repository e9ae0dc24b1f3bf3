/- The wheel as the document has it: timers in the order in which they were set. Plain laws. -/
import Derived.Test.YtilkfcpdeeaifaaObj
set_option linter.unusedVariables false
set_option linter.unusedSimpArgs false
set_option linter.unusedSectionVars false
namespace Go.Proofs.Ytilkfcpdeeaifaa
open Go.RowKit
structure Tm where
  id : Int
  due : Int
  ord : Int
structure PW where
  now : Int
  set : Int
  ts : List Tm
def tfind (i : Int) : List Tm → Option Tm
  | [] => none
  | t :: l => if t.id = i then some t else tfind i l
def tdel (i : Int) : List Tm → List Tm
  | [] => []
  | t :: l => if t.id = i then l else t :: tdel i l
def PW.drop (s : PW) (i : Int) : PW := { s with ts := tdel i s.ts }
def PW.setF (s : PW) (i a : Int) : PW × Int :=
  if i < 0 ∨ a < 1 ∨ 1073741824 < a then (s, 1)
  else if (tfind i s.ts).isSome = false ∧ 1024 ≤ s.ts.length then (s, 9)
  else ({ now := s.now, set := s.set + 1, ts := tdel i s.ts ++ [⟨i, s.now + a, s.set⟩] }, 0)
def PW.cancelF (s : PW) (i : Int) : PW × Int := if (tfind i s.ts).isSome = true then (s.drop i, 0) else (s, 6)
def dueB (n : Int) (t : Tm) : Bool := decide (t.due = n)
def PW.tickF (s : PW) : PW × List Int := ({ s with now := s.now + 1, ts := s.ts.filter (fun t => !dueB (s.now + 1) t) }, (s.ts.filter (dueB (s.now + 1))).map Tm.id)
def PW.leftF (s : PW) (i : Int) : Int × Int := match tfind i s.ts with
  | some t => (t.due - s.now, 0)
  | none => (0, 6)
/-- What every wheel is: no number twice, set one behind the other, all due at a tick that is to come. -/
structure PW.Good (s : PW) : Prop where
  ids : (s.ts.map Tm.id).Nodup
  ords : s.ts.Pairwise (fun a b => a.ord < b.ord)
  below : ∀ t ∈ s.ts, 0 ≤ t.ord ∧ t.ord < s.set
  due : ∀ t ∈ s.ts, s.now < t.due ∧ t.due ≤ s.now + 1073741824
  now : 0 ≤ s.now
  set : 0 ≤ s.set
  len : s.ts.length ≤ 1024
def PW.new : PW := ⟨0, 0, []⟩
theorem PW.new_good : PW.new.Good := ⟨by simp [PW.new], by simp [PW.new], by simp [PW.new], by simp [PW.new], by simp [PW.new], by simp [PW.new], by simp [PW.new]⟩
theorem tfind_some {i : Int} : ∀ {l : List Tm} {t : Tm}, tfind i l = some t → t ∈ l ∧ t.id = i
  | [], _, h => by cases h
  | a :: l, t, h => by
    unfold tfind at h
    split at h
    · rename_i e
      cases h
      exact ⟨by simp, e⟩
    · obtain ⟨h1, h2⟩ := tfind_some h
      exact ⟨List.mem_cons_of_mem _ h1, h2⟩
theorem tfind_none {i : Int} : ∀ {l : List Tm}, tfind i l = none → ∀ t ∈ l, t.id ≠ i
  | [], _, _, h => by cases h
  | a :: l, hn, t, ht => by
    unfold tfind at hn
    split at hn
    · cases hn
    · rename_i e
      rcases List.mem_cons.1 ht with rfl | ht
      · exact e
      · exact tfind_none hn t ht
theorem tdel_none {i : Int} : ∀ {l : List Tm}, tfind i l = none → tdel i l = l
  | [], _ => rfl
  | a :: l, h => by
    unfold tfind at h
    unfold tdel
    split at h
    · cases h
    · rename_i e
      rw [if_neg e, tdel_none h]
theorem tdel_sub (i : Int) : ∀ l : List Tm, (tdel i l).Sublist l
  | [] => List.Sublist.slnil
  | a :: l => by
    unfold tdel
    split
    · exact List.sublist_cons_self _ _
    · exact (tdel_sub i l).cons_cons _
theorem tdel_len {i : Int} : ∀ {l : List Tm} {t : Tm}, tfind i l = some t → (tdel i l).length + 1 = l.length
  | [], _, h => by cases h
  | a :: l, t, h => by
    unfold tfind at h
    unfold tdel
    split at h
    · rename_i e
      rw [if_pos e]; simp
    · rename_i e
      rw [if_neg e]
      simp only [List.length_cons]
      rw [tdel_len h]
theorem tdel_filter {i : Int} : ∀ {l : List Tm}, (l.map Tm.id).Nodup → tdel i l = l.filter (fun t => !decide (t.id = i))
  | [], _ => rfl
  | a :: l, h => by
    simp only [List.map_cons, List.nodup_cons] at h
    unfold tdel
    split
    · rename_i e
      have hf : l.filter (fun t => !decide (t.id = i)) = l := by
        rw [List.filter_eq_self]
        intro t ht
        have : t.id ≠ i := fun e2 => h.1 (by rw [e, ← e2]; exact List.mem_map_of_mem ht)
        simp [this]
      rw [List.filter_cons_of_neg (by simp [e]), hf]
    · rename_i e
      rw [List.filter_cons_of_pos (by simp [e]), tdel_filter h.2]
theorem tdel_not_mem {i : Int} {l : List Tm} (h : (l.map Tm.id).Nodup) : i ∉ (tdel i l).map Tm.id := by
  rw [tdel_filter h]
  intro hm
  obtain ⟨t, ht, e⟩ := List.mem_map.1 hm
  have := (List.mem_filter.1 ht).2
  simp [e] at this
theorem PW.drop_good {s : PW} (h : s.Good) (i : Int) : (s.drop i).Good := by
  have hs := tdel_sub i s.ts
  exact ⟨h.ids.sublist (hs.map _), h.ords.sublist hs, fun t ht => h.below t (hs.subset ht), fun t ht => h.due t (hs.subset ht), h.now, h.set, Nat.le_trans hs.length_le h.len⟩
theorem PW.setF_good {s : PW} (h : s.Good) (i a : Int) : (s.setF i a).1.Good := by
  unfold PW.setF
  split
  · exact h
  · rename_i h1
    split
    · exact h
    · rename_i h2
      have hd := PW.drop_good h i
      have hlen : (tdel i s.ts).length < 1024 := by
        cases hf : tfind i s.ts with
        | none => rw [tdel_none hf]; rw [hf] at h2; simp at h2; omega
        | some t => have := tdel_len hf; have := h.len; omega
      refine ⟨?_, ?_, ?_, ?_, h.now, by have := h.set; show 0 ≤ s.set + 1; omega, by simp; omega⟩
      · show ((tdel i s.ts ++ [_]).map Tm.id).Nodup
        rw [List.map_append, List.nodup_append]
        refine ⟨hd.ids, by simp, ?_⟩
        intro x hx y hy
        simp only [List.map_cons, List.map_nil, List.mem_singleton] at hy
        subst hy
        rintro rfl
        exact tdel_not_mem h.ids hx
      · show (tdel i s.ts ++ [_]).Pairwise _
        rw [List.pairwise_append]
        refine ⟨hd.ords, by simp, ?_⟩
        intro x hx y hy
        simp only [List.mem_singleton] at hy
        subst hy
        exact (hd.below x hx).2
      · intro t ht
        rcases List.mem_append.1 ht with ht | ht
        · have := hd.below t ht
          exact ⟨this.1, by show t.ord < s.set + 1; have h3 : t.ord < s.set := this.2; omega⟩
        · simp only [List.mem_singleton] at ht
          subst ht
          exact ⟨h.set, by show s.set < s.set + 1; omega⟩
      · intro t ht
        rcases List.mem_append.1 ht with ht | ht
        · exact hd.due t ht
        · simp only [List.mem_singleton] at ht
          subst ht
          show s.now < s.now + a ∧ s.now + a ≤ s.now + 1073741824
          omega
theorem PW.cancelF_good {s : PW} (h : s.Good) (i : Int) : (s.cancelF i).1.Good := by
  unfold PW.cancelF
  split
  · exact PW.drop_good h i
  · exact h
theorem PW.tickF_good {s : PW} (h : s.Good) : s.tickF.1.Good := by
  have hs : (s.ts.filter (fun t => !dueB (s.now + 1) t)).Sublist s.ts := List.filter_sublist
  refine ⟨h.ids.sublist (hs.map _), h.ords.sublist hs, fun t ht => h.below t (hs.subset ht), ?_, by have := h.now; show 0 ≤ s.now + 1; omega, h.set, Nat.le_trans hs.length_le h.len⟩
  intro t ht
  obtain ⟨h1, h2⟩ := List.mem_filter.1 ht
  have := h.due t h1
  simp [dueB] at h2
  show s.now + 1 < t.due ∧ t.due ≤ s.now + 1 + 1073741824
  omega
/-- The numbers in a slot. -/
def slotOf (k : Nat) (l : List Tm) : List Int := (l.filter (fun t => decide (t.due % 64 = (k : Int)))).map Tm.id
end Go.Proofs.Ytilkfcpdeeaifaa
