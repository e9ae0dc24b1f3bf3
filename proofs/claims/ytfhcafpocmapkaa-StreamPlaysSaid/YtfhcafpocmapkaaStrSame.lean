/- Plain: the program's streams and the reference's tell the same, behind any ops. -/
import Derived.Test.YtfhcafpocmapkaaStrEndsPure3
set_option linter.unusedVariables false
set_option linter.unusedSimpArgs false
set_option linter.unusedSectionVars false
namespace Go.Proofs.Ytfhcafpocmapkaa
open Go.RowKit
abbrev keys (es : List (Int × Int)) : List Int := es.map (·.1)
theorem aget_none {k : Int} {es : List (Int × Int)} : aget k es = none ↔ k ∉ keys es := by
  unfold aget keys
  rw [Option.map_eq_none_iff, List.find?_eq_none]
  constructor
  · intro h hm
    obtain ⟨p, hp, rfl⟩ := List.mem_map.1 hm
    exact h p hp (by simp)
  · intro h p hp e
    exact h (List.mem_map.2 ⟨p, hp, by simpa using e⟩)
theorem aget_some {k v : Int} {es : List (Int × Int)} (hn : (keys es).Nodup) : aget k es = some v ↔ (k, v) ∈ es := by
  induction es with
  | nil => simp [aget]
  | cons p t ih =>
    simp only [keys, List.map_cons, List.nodup_cons] at hn
    unfold aget at ih ⊢
    rw [List.find?_cons]
    by_cases hk : p.1 = k
    · have : (p.1 == k) = true := by simpa using hk
      simp only [this, Option.map_some, Option.some.injEq, List.mem_cons]
      constructor
      · intro e; left; rw [← e, ← hk]
      · rintro (e | e)
        · rw [← e]
        · exact absurd (List.mem_map.2 ⟨(k, v), e, rfl⟩) (by rw [← hk]; exact hn.1)
    · have : (p.1 == k) = false := by simpa using hk
      simp only [this, List.mem_cons]
      rw [ih hn.2]
      constructor
      · exact .inr
      · rintro (e | e)
        · exact absurd (by rw [← e]) hk
        · exact e
theorem aget_perm {k : Int} {a b : List (Int × Int)} (h : a.Perm b) (hn : (keys a).Nodup) : aget k a = aget k b := by
  have hn2 : (keys b).Nodup := (h.map (·.1)).nodup_iff.1 hn
  cases hb : aget k b with
  | none => rw [aget_none] at hb ⊢; exact fun hm => hb ((h.map (·.1)).mem_iff.1 hm)
  | some v => rw [aget_some hn2] at hb; rw [aget_some hn]; exact h.mem_iff.2 hb
theorem aput_fresh {k v : Int} : ∀ {es : List (Int × Int)}, k ∉ keys es → aput k v es = es ++ [(k, v)]
  | [], _ => rfl
  | p :: t, h => by
    simp only [keys, List.map_cons, List.mem_cons, not_or] at h
    unfold aput
    rw [if_neg (fun e => h.1 e.symm), aput_fresh h.2]
    rfl
theorem aput_map {k v : Int} : ∀ {es : List (Int × Int)}, (keys es).Nodup → k ∈ keys es → aput k v es = es.map (fun p => if p.1 = k then (k, v) else p)
  | [], _, h => by cases h
  | p :: t, hn, h => by
    simp only [keys, List.map_cons, List.nodup_cons] at hn
    unfold aput
    by_cases hk : p.1 = k
    · rw [if_pos hk, List.map_cons, if_pos hk]
      congr 1
      rw [List.map_congr_left (g := fun x => x) (fun q hq => if_neg (fun e => hn.1 (by rw [hk, ← e]; exact List.mem_map.2 ⟨q, hq, rfl⟩)))]
      simp
    · rw [if_neg hk, List.map_cons, if_neg hk, aput_map hn.2 (by
        simp only [keys, List.map_cons, List.mem_cons] at h
        exact h.resolve_left (fun e => hk e.symm))]
theorem keys_aput {k v : Int} {es : List (Int × Int)} (h : k ∈ keys es) : keys (aput k v es) = keys es := by
  induction es with
  | nil => cases h
  | cons p t ih =>
    unfold aput
    by_cases hk : p.1 = k
    · rw [if_pos hk]; simp [keys, hk]
    · rw [if_neg hk]
      simp only [keys, List.map_cons, List.mem_cons] at h ih ⊢
      rw [ih (h.resolve_left (fun e => hk e.symm))]
theorem adel_filter {k : Int} : ∀ {es : List (Int × Int)}, (keys es).Nodup → adel k es = es.filter (fun p => !(p.1 == k))
  | [], _ => rfl
  | p :: t, hn => by
    simp only [keys, List.map_cons, List.nodup_cons] at hn
    unfold adel
    by_cases hk : p.1 = k
    · have : (p.1 == k) = true := by simpa using hk
      rw [if_pos hk, List.filter_cons, this]
      simp only [Bool.not_true, Bool.false_eq_true, if_false]
      symm
      rw [List.filter_eq_self]
      intro q hq
      have : q.1 ≠ k := fun e => hn.1 (by rw [hk, ← e]; exact List.mem_map.2 ⟨q, hq, rfl⟩)
      simpa using this
    · have : (p.1 == k) = false := by simpa using hk
      rw [if_neg hk, List.filter_cons, this, adel_filter hn.2]
      rfl
theorem rput_perm (k : Int) : ∀ es : List (Int × Int), (rput k es).Perm ((k, 0) :: es)
  | [] => List.Perm.refl _
  | p :: t => by
    unfold rput
    split
    · exact List.Perm.refl _
    · exact ((rput_perm k t).cons p).trans (List.Perm.swap _ _ _)
theorem rput_sorted {k : Int} : ∀ {es : List (Int × Int)}, (keys es).Pairwise (· < ·) → k ∉ keys es → (keys (rput k es)).Pairwise (· < ·)
  | [], _, _ => by simp [rput, keys]
  | p :: t, h, hk => by
    simp only [keys, List.map_cons, List.pairwise_cons, List.mem_cons, not_or] at h hk
    unfold rput
    split
    · rename_i hlt
      simp only [keys, List.map_cons, List.pairwise_cons, List.mem_cons]
      refine ⟨?_, h⟩
      rintro a (rfl | ha)
      · exact hlt
      · have := h.1 a ha; omega
    · rename_i hlt
      simp only [keys, List.map_cons, List.pairwise_cons]
      refine ⟨fun a ha => ?_, rput_sorted h.2 hk.2⟩
      have h2 : a ∈ (k, (0 : Int)).1 :: keys t := ((rput_perm k t).map (·.1)).mem_iff.1 ha
      rcases List.mem_cons.1 h2 with h1 | h1
      · have h3 : ¬ k < p.1 := hlt
        have h4 : ¬ k = p.1 := hk.1
        simp only at h1
        omega
      · exact h.1 a h1
end Go.Proofs.Ytfhcafpocmapkaa
