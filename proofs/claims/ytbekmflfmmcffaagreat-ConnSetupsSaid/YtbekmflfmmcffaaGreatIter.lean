/- A range over a map whose keys are ints, which the loop does not write: whatever order the tape says, each pair comes out once. -/
import Derived.Test.YtbekmflfmmcffaaGreatObj
import Derived.Deep.LoopGhost
set_option linter.unusedVariables false
set_option linter.unusedSimpArgs false
set_option linter.unusedSectionVars false
namespace Go.Proofs.YtbekmflfmmcffaaGreat
open Go.RowKit

/-- Block r ranges over the map of block m; 'left': the pairs that are still to come; 'cur': the one that came last. -/
def IterAt (w : World) (r m : Nat) (left : List (Int × Value)) (cur : Option (Int × Value)) : Prop :=
  ∃ E clock seen, w.heap[m]? = some (.map E clock) ∧ w.heap[r]? = some (.mapIter (some m) clock seen clock) ∧ (∀ e ∈ E.toList, e.born < clock) ∧ (E.toList.map (·.born)).Nodup ∧
    (E.toList.filter fun e => !seen.contains e.born).map (fun e => (e.key, e.val)) = left.map encP ∧
    (∀ p, cur = some p → ∃ e ∈ E.toList, seen.back? = some e.born ∧ e.key = .int .i64 p.1 ∧ e.val = p.2)

theorem filter_ne_erase : ∀ (L : List MapEntry) (i : Nat) (hi : i < L.length), (L.map (·.born)).Nodup → L.filter (fun e => !(e.born == L[i].born)) = L.eraseIdx i
  | x :: L, 0, _, h => by
    simp only [List.map_cons, List.nodup_cons] at h
    simp only [List.getElem_cons_zero, List.eraseIdx_cons_zero, List.filter_cons, beq_self_eq_true, Bool.not_true, Bool.false_eq_true, if_false]
    rw [List.filter_eq_self]
    intro e he
    have : e.born ≠ x.born := fun e1 => h.1 (by rw [← e1]; exact List.mem_map.2 ⟨e, he, rfl⟩)
    simpa using this
  | x :: L, i + 1, hi, h => by
    simp only [List.map_cons, List.nodup_cons] at h
    simp only [List.length_cons, Nat.add_lt_add_iff_right] at hi
    have hx : x.born ≠ L[i].born := fun e1 => h.1 (by rw [e1]; exact List.mem_map.2 ⟨_, List.getElem_mem hi, rfl⟩)
    have hx' : (!(x.born == L[i].born)) = true := by simpa using hx
    simp only [List.getElem_cons_succ, List.eraseIdx_cons_succ, List.filter_cons, hx', if_true]
    rw [filter_ne_erase L i hi h.2]

section
variable {P : Program} {w : World} {m r : Nat} {es left : List (Int × Value)} {cur : Option (Int × Value)} {t kt et : TypeId}

theorem MapIs.range (h : MapIs w m es) (ht : P.underlying t = some (.map kt et)) :
    ∃ o, (Instr.range t (.map (some m))).run P w = .ok (.pointer (some ⟨w.heap.size, 0, none⟩)) (w.alloc o) ∧ IterAt (w.alloc o) w.heap.size m es none := by
  have hlt := h.lt
  obtain ⟨E, clock, hb, he, hbo, hn⟩ := h
  refine ⟨_, run_range_map w t kt et m E clock ht hb, E, clock, #[], by rw [Below.heap_alloc _ _ _ hlt]; exact hb, heap_alloc_new w _, hbo, hn, ?_, fun p hp => by cases hp⟩
  have : E.toList.filter (fun e => !(#[] : Array Nat).contains e.born) = E.toList := by
    rw [List.filter_eq_self]; intro e _; simp
  rw [this]; exact he

theorem IterAt.done (h : IterAt w r m left cur) (hl : left = []) (ty : TypeId) (s : Option Nat) : (Instr.next (.pointer (some ⟨r, 0, s⟩)) false ty).run P w = .ok (.tuple #[.bool false]) w := by
  subst hl
  obtain ⟨E, clock, seen, hm, hr, hbo, hn, hL, _⟩ := h
  have hL0 : (E.toList.filter fun e => !seen.contains e.born) = [] := by simpa using hL
  have hE0 : (E.filter fun e => !seen.contains e.born) = #[] := by
    apply Array.toList_inj.1; simpa using hL0
  have htest := next_test_false seen E clock clock hbo (Nat.le_refl _)
  simp only [Instr.next, getObj, Sem.run_bind, Sem.run, hr, hm, Result.andThen, htest, Bool.false_eq_true, if_false, hE0]
  simp [choose, Sem.run, Question.forced]

theorem IterAt.step (h : IterAt w r m left cur) (hl : left ≠ []) :
    ∃ (i : Nat) (hi : i < left.length) (w' : World), (∀ (ty : TypeId) (s : Option Nat), (Instr.next (.pointer (some ⟨r, 0, s⟩)) false ty).run P w = .ok (.tuple #[.bool true, .int .i64 left[i].1, left[i].2]) w') ∧ IterAt w' r m (left.eraseIdx i) (some left[i]) ∧ Keeps (fun k => k = r) w w' := by
  obtain ⟨E, clock, seen, hm, hr, hbo, hn, hL, _⟩ := h
  have hrm : m ≠ r := by rintro rfl; rw [hm] at hr; cases hr
  have hrlt : r < w.heap.size := (Array.getElem?_eq_some_iff.1 hr).1
  have htest := next_test_false seen E clock clock hbo (Nat.le_refl _)
  have eF : (E.filter fun e => !seen.contains e.born).toList = E.toList.filter fun e => !seen.contains e.born := by simp
  generalize hLA : (E.filter fun e => !seen.contains e.born) = L at eF
  have hsub : ∀ x ∈ L.toList, x ∈ E.toList := by rw [eF]; intro x hx; exact (List.mem_filter.1 hx).1
  have e1 : L.filter (fun x => decide (x.born < clock)) = L := Array.filter_eq_self.2 (fun x hx => by simpa using hbo x (hsub x (by simpa using hx)))
  have e2 : L.filter (fun x => decide (x.born ≥ clock)) = #[] := by
    rw [Array.filter_eq_empty_iff]
    intro x hx
    have := hbo x (hsub x (by simpa using hx))
    simp; omega
  have hLlen : L.size = left.length := by
    have := congrArg List.length hL
    rw [← eF] at this; simpa using this
  have hpos : 0 < left.length := List.length_pos_iff.2 hl
  have h0 : ¬ L.size = 0 := by omega
  have hne : L.isEmpty = false := by simp [Array.isEmpty, h0]
  have hch : ∃ (j : Nat) (w1 : World), j < L.size ∧ w1.heap = w.heap ∧ w1.os = w.os ∧ w1.tape = w.tape ∧ w1.output = w.output ∧ (choose (Question.mapNext L.size)).run P w = .ok j w1 := by
    by_cases hf : L.size ≤ 1
    · exact ⟨0, w, by omega, rfl, rfl, rfl, rfl, by simp [choose, Sem.run, Question.forced, hf]⟩
    · exact ⟨_, w.drew, Nat.mod_lt _ (by omega), rfl, rfl, rfl, rfl, by
        simp only [choose, Sem.run, Question.forced, decide_eq_true_eq, hf, if_false, Question.cut]
        rfl⟩
  obtain ⟨j, w1, hj, hh, ho, hta, hou, hrun⟩ := hch
  have hset : ∀ o', (setObj r o').run P w1 = .ok () (putB w1 r o') := fun o' => by simp [setObj, Sem.run, hh, hr, putB]
  have hjl : j < left.length := by omega
  have hkv : L[j].key = .int .i64 left[j].1 ∧ L[j].val = left[j].2 := by
    have h1 : (L.toList.map fun e => (e.key, e.val))[j]? = (left.map encP)[j]? := by rw [eF, hL]
    simp [hj, hjl, encP] at h1
    exact h1
  refine ⟨j, hjl, putB w1 r (.mapIter (some m) clock (seen.push L[j].born) clock), ?_, ?_, ?_⟩
  · intro ty s
    simp only [Instr.next, getObj, Sem.run_bind, Sem.run, hr, hm, Result.andThen, htest, Bool.false_eq_true, if_false, hLA, e1, e2, Array.append_empty, hne, Array.empty_append, Array.size_map]
    simp only [hrun, Array.getElem?_map, Array.getElem?_eq_getElem hj, Option.map_some, Sem.run_bind, hset, Result.andThen, hkv]
    rfl
  · refine ⟨E, clock, seen.push L[j].born, ?_, ?_, hbo, hn, ?_, ?_⟩
    · show (w1.heap.setIfInBounds r _)[m]? = _
      rw [Array.getElem?_setIfInBounds, if_neg (fun e => hrm e.symm), hh]; exact hm
    · show (w1.heap.setIfInBounds r _)[r]? = _
      rw [Array.getElem?_setIfInBounds, if_pos rfl, if_pos (by rw [hh]; exact hrlt)]
    · have hnL : (L.toList.map (·.born)).Nodup := by
        rw [eF]; exact hn.sublist ((List.filter_sublist).map _)
      have h1 : (E.toList.filter fun e => !(seen.push L[j].born).contains e.born) = L.toList.eraseIdx j := by
        have h3 : ∀ b, L.toList.filter (fun e => !(e.born == b)) = E.toList.filter (fun e => !(e.born == b) && !seen.contains e.born) := by
          intro b; rw [eF, List.filter_filter]
        rw [← filter_ne_erase L.toList j (by simpa using hj) hnL, h3]
        apply List.filter_congr
        intro e _
        rw [Array.contains_push, Bool.not_or, Bool.and_comm]
        simp
      rw [h1, map_erase, eF, hL, ← map_erase]
    · intro p hp
      simp only [Option.some.injEq] at hp
      subst hp
      exact ⟨L[j], hsub _ (by simp), by simp, hkv.1, hkv.2⟩
  · refine ⟨ho, hta, hou, by simp [putB, hh], fun k hk hs => ?_⟩
    show (w1.heap.setIfInBounds r _)[k]? = _
    rw [Array.getElem?_setIfInBounds, if_neg (fun e => hs e.symm), hh]

theorem IterAt.entry {p : Int × Value} (h : IterAt w r m left (some p)) (s : Option Nat) : (Instr.entry (.pointer (some ⟨r, 0, s⟩))).run P w = .ok (.tuple #[.int .i64 p.1, p.2]) w := by
  obtain ⟨E, clock, seen, hm, hr, hbo, hn, _, hc⟩ := h
  obtain ⟨e, he, hb, hk, hv⟩ := hc p rfl
  have hf : E.find? (fun x => x.born == e.born) = some e := by
    have := find_born e E.toList hn he
    rw [← this]; simp
  simp only [Instr.entry, getObj, Sem.run_bind, Sem.run, hr, hm, Result.andThen, hb, hf, hk, hv]
  simp [Sem.run]

theorem IterAt.keeps {S : Nat → Prop} {w' : World} (h : IterAt w r m left cur) (k : Keeps S w w') (hr : ¬ S r) (hm : ¬ S m) : IterAt w' r m left cur := by
  obtain ⟨E, clock, seen, h1, h2, rest⟩ := h
  exact ⟨E, clock, seen, (k.block m (Array.getElem?_eq_some_iff.1 h1).1 hm).trans h1, (k.block r (Array.getElem?_eq_some_iff.1 h2).1 hr).trans h2, rest⟩
end
end Go.Proofs.YtbekmflfmmcffaaGreat
