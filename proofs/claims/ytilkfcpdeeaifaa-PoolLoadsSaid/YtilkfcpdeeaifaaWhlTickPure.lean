/- What a tick does to the list of timers: plain laws. -/
import Derived.Test.YtilkfcpdeeaifaaWhlMem
set_option linter.unusedVariables false
set_option linter.unusedSimpArgs false
set_option linter.unusedSectionVars false
namespace Go.Proofs.Ytilkfcpdeeaifaa
open Go.RowKit Go.Sort
def inSlot (k : Nat) (t : Tm) : Bool := decide (t.due % 64 = (k : Int))
def slotT (k : Nat) (l : List Tm) : List Tm := l.filter (inSlot k)
theorem slot_ids (k : Nat) (l : List Tm) : slotOf k l = (slotT k l).map Tm.id := rfl
theorem tfind_mem {t : Tm} : ∀ {l : List Tm}, (l.map Tm.id).Nodup → t ∈ l → tfind t.id l = some t
  | [], _, h => by cases h
  | a :: l, hn, h => by
    simp only [List.map_cons, List.nodup_cons] at hn
    unfold tfind
    rcases List.mem_cons.1 h with rfl | h
    · rw [if_pos rfl]
    · have : a.id ≠ t.id := fun e => hn.1 (by rw [e]; exact List.mem_map_of_mem h)
      rw [if_neg this]
      exact tfind_mem hn.2 h
/-- What is due of a slot at its tick is all that is due. -/
theorem slot_due {n : Int} {k : Nat} (hk : n % 64 = (k : Int)) (l : List Tm) : (slotT k l).filter (dueB n) = l.filter (dueB n) := by
  unfold slotT
  rw [List.filter_filter]
  apply List.filter_congr
  intro t _
  by_cases h : t.due = n
  · have h1 : inSlot k t = true := by unfold inSlot; rw [h]; simp [hk]
    rw [h1, Bool.and_true]
  · have : dueB n t = false := by simp [dueB, h]
    rw [this]; rfl
theorem due_take {n : Int} {l : List Tm} {j : Nat} (hj : j < l.length) : (l.take (j + 1)).filter (dueB n) = (l.take j).filter (dueB n) ++ (if dueB n l[j] = true then [l[j]] else []) := by
  rw [List.take_succ_eq_append_getElem hj, List.filter_append]
  congr 1
  by_cases h : dueB n l[j] = true
  · rw [if_pos h, List.filter_cons_of_pos h]; rfl
  · rw [if_neg h, List.filter_cons_of_neg h]; rfl
/-- The timers without some. -/
def delAll (l : List Tm) (d : List Tm) : List Tm := d.foldl (fun l t => tdel t.id l) l
theorem delAll_snoc (l d : List Tm) (t : Tm) : delAll l (d ++ [t]) = tdel t.id (delAll l d) := by
  unfold delAll
  rw [List.foldl_append]; rfl
theorem delAll_take {l d : List Tm} {j : Nat} (hj : j < d.length) : delAll l (d.take (j + 1)) = tdel d[j].id (delAll l (d.take j)) := by
  rw [List.take_succ_eq_append_getElem hj, delAll_snoc]
theorem delAll_filter : ∀ (d l : List Tm), (l.map Tm.id).Nodup → delAll l d = l.filter (fun t => !d.any (fun x => decide (t.id = x.id)))
  | [], l, _ => by
    show l = _
    rw [List.filter_eq_self.2]
    intro t _; rfl
  | x :: d, l, hn => by
    have hs : ((tdel x.id l).map Tm.id).Nodup := hn.sublist ((tdel_sub x.id l).map _)
    show delAll (tdel x.id l) d = _
    rw [delAll_filter d _ hs, tdel_filter hn, List.filter_filter]
    apply List.filter_congr
    intro t _
    simp only [List.any_cons, Bool.not_or]
    rw [Bool.and_comm]
theorem nodup_id {l : List Tm} (hn : (l.map Tm.id).Nodup) {a b : Tm} (ha : a ∈ l) (hb : b ∈ l) (h : a.id = b.id) : a = b := by
  have h1 := tfind_mem hn ha
  have h2 := tfind_mem hn hb
  rw [h, h2] at h1
  exact (Option.some.inj h1).symm
theorem delAll_due {n : Int} {l : List Tm} (hn : (l.map Tm.id).Nodup) : delAll l (l.filter (dueB n)) = l.filter (fun t => !dueB n t) := by
  rw [delAll_filter _ _ hn]
  apply List.filter_congr
  intro t ht
  congr 1
  cases h : dueB n t with
  | true =>
    rw [List.any_eq_true]
    exact ⟨t, List.mem_filter.2 ⟨ht, h⟩, by simp⟩
  | false =>
    rw [List.any_eq_false]
    intro x hx
    obtain ⟨h1, h2⟩ := List.mem_filter.1 hx
    have : t.id ≠ x.id := fun e => by
      have := nodup_id hn ht h1 e
      rw [this, h2] at h; cases h
    simpa using this
/-- A row sorted by the order in which its timers were set is as it was. -/
theorem sort_same {l l' : List Tm} (hs : l.Pairwise (fun a b => a.ord < b.ord)) (hp : l'.Perm l) (hs' : l'.Pairwise (fun a b => a.ord ≤ b.ord)) : l' = l := by
  have hinj : ∀ a b, a ∈ l → b ∈ l → a.ord = b.ord → a = b := by
    clear hp hs'
    induction l with
    | nil => intro a b h; cases h
    | cons x l ih =>
      rw [List.pairwise_cons] at hs
      intro a b ha hb e
      rcases List.mem_cons.1 ha with e1 | h1
      · rcases List.mem_cons.1 hb with e2 | h2
        · rw [e1, e2]
        · have := hs.1 b h2; rw [← e1] at this; omega
      · rcases List.mem_cons.1 hb with e2 | h2
        · have := hs.1 a h1; rw [← e2] at this; omega
        · exact ih hs.2 a b h1 h2 e
  exact List.Perm.eq_of_pairwise (le := fun a b => a.ord ≤ b.ord) (fun a b ha hb h1 h2 => hinj a b (hp.subset ha) hb (Int.le_antisymm h1 h2)) hs' (hs.imp (fun h => Int.le_of_lt h)) hp
def tmC (t : Tm) : List Value := [.int .i64 t.id, .int .i64 t.due, .int .i64 t.ord]
end Go.Proofs.Ytilkfcpdeeaifaa
