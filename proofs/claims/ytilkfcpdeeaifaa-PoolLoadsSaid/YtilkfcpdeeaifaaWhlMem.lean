/- The wheel in memory: its block, the map of its timers, the rows of its slots. -/
import Derived.Test.YtilkfcpdeeaifaaWhlSpec
import Derived.Lib.RowBridge
import Derived.Lib.Slices
set_option linter.unusedVariables false
set_option linter.unusedSimpArgs false
set_option linter.unusedSectionVars false
namespace Go.Proofs.Ytilkfcpdeeaifaa
open Go.RowKit Go.Sort
def tmV (t : Tm) : Value := .agg #[.int .i64 t.id, .int .i64 t.due, .int .i64 t.ord]
def tmE (t : Tm) : Int × Value := (t.id, tmV t)
theorem mget_tm (i : Int) : ∀ l : List Tm, mget i (l.map tmE) = (tfind i l).map tmV
  | [] => rfl
  | t :: l => by
    simp only [List.map_cons, mget, tmE, tfind]
    split
    · rfl
    · exact mget_tm i l
theorem mdel_tm (i : Int) : ∀ l : List Tm, mdel i (l.map tmE) = (tdel i l).map tmE
  | [] => rfl
  | t :: l => by
    simp only [List.map_cons, mdel, tmE, tdel]
    split
    · rfl
    · rw [List.map_cons, ← mdel_tm i l]; rfl
theorem mput_tm (t : Tm) : ∀ l : List Tm, tfind t.id l = none → mput t.id (tmV t) (l.map tmE) = (l ++ [t]).map tmE
  | [], _ => rfl
  | a :: l, h => by
    unfold tfind at h
    split at h
    · cases h
    · rename_i e
      simp only [List.map_cons, mput, tmE, List.cons_append]
      rw [if_neg e]
      congr 1
      exact mput_tm t l h
theorem tfind_tdel {i : Int} {l : List Tm} (h : (l.map Tm.id).Nodup) : tfind i (tdel i l) = none := by
  cases hf : tfind i (tdel i l) with
  | none => rfl
  | some t =>
    obtain ⟨h1, h2⟩ := tfind_some hf
    exact absurd (List.mem_map.2 ⟨t, h1, h2⟩) (tdel_not_mem h)
/-- Where a number stands in its slot, and what the slot is without it. -/
theorem slot_del {i : Int} {k : Nat} : ∀ {l : List Tm} {t : Tm}, tfind i l = some t → t.due % 64 = (k : Int) →
    ∀ j : Nat, ∃ p : Nat, Lib.idxFrom (slotOf k l) i j = ((j + p : Nat) : Int) ∧ p < (slotOf k l).length ∧ slotOf k (tdel i l) = (slotOf k l).eraseIdx p
  | [], _, h, _, _ => by cases h
  | a :: l, t, h, hk, j => by
    unfold tfind at h
    split at h
    · rename_i e
      cases h
      have hs : slotOf k (a :: l) = a.id :: slotOf k l := by
        unfold slotOf
        rw [List.filter_cons_of_pos (by simpa using hk)]; rfl
      refine ⟨0, ?_, ?_, ?_⟩
      · rw [hs, Lib.idxFrom, if_pos e]; simp
      · rw [hs]; simp
      · rw [hs, tdel, if_pos e]; simp
    · rename_i e
      rw [tdel, if_neg e]
      by_cases ha : a.due % 64 = (k : Int)
      · have hs : ∀ r, slotOf k (a :: r) = a.id :: slotOf k r := fun r => by
          unfold slotOf
          rw [List.filter_cons_of_pos (by simpa using ha)]; rfl
        obtain ⟨p, h1, h2, h3⟩ := slot_del h hk (j + 1)
        refine ⟨p + 1, ?_, ?_, ?_⟩
        · rw [hs, Lib.idxFrom, if_neg e, h1]; congr 1; omega
        · rw [hs]; simp; omega
        · rw [hs, hs, h3]; simp
      · have hs : ∀ r, slotOf k (a :: r) = slotOf k r := fun r => by
          unfold slotOf
          rw [List.filter_cons_of_neg (by simpa using ha)]
        obtain ⟨p, h1, h2, h3⟩ := slot_del h hk j
        exact ⟨p, by rw [hs]; exact h1, by rw [hs]; exact h2, by rw [hs, hs]; exact h3⟩
theorem slot_other {i : Int} {k : Nat} : ∀ {l : List Tm} {t : Tm}, tfind i l = some t → t.due % 64 ≠ (k : Int) → slotOf k (tdel i l) = slotOf k l
  | [], _, h, _ => by cases h
  | a :: l, t, h, hk => by
    unfold tfind at h
    split at h
    · rename_i e
      cases h
      unfold slotOf
      rw [tdel, if_pos e, List.filter_cons_of_neg (by simpa using hk)]
    · rename_i e
      have ih := slot_other h hk
      unfold slotOf at ih ⊢
      rw [tdel, if_neg e]
      by_cases ha : a.due % 64 = (k : Int)
      · rw [List.filter_cons_of_pos (by simpa using ha), List.filter_cons_of_pos (by simpa using ha), List.map_cons, List.map_cons, ih]
      · rw [List.filter_cons_of_neg (by simpa using ha), List.filter_cons_of_neg (by simpa using ha)]; exact ih
theorem slot_push (k : Nat) (l : List Tm) (t : Tm) : slotOf k (l ++ [t]) = if t.due % 64 = (k : Int) then slotOf k l ++ [t.id] else slotOf k l := by
  unfold slotOf
  rw [List.filter_append]
  split
  · rename_i h; simp [h]
  · rename_i h; simp [h]
theorem slot_len (k : Nat) (l : List Tm) : (slotOf k l).length ≤ l.length := by
  unfold slotOf
  rw [List.length_map]
  exact List.length_filter_le _ _
/-- A row that the call owns, its first cells numbers. -/
abbrev Owns (base : Nat) (w : World) (v : Value) (xs : List Int) : Prop := w.ownsRow base 3 1 v xs.length (xs.map (Value.int .i64))
theorem Owns.of_same {base : Nat} {w w' : World} {v : Value} {xs : List Int} (h : Owns base w v xs) (k : ∀ g, v.ownBlock = some g → w'.heap[g]? = w.heap[g]?) : Owns base w' v xs := by
  refine ⟨h.1, ?_⟩
  rcases h.2 with hn | ⟨g, cap, cur, rfl, hb, hgg, rest⟩
  · exact .inl hn
  · exact .inr ⟨g, cap, cur, rfl, hb, (k g rfl).trans hgg, rest⟩
theorem Owns.form {base : Nat} {w : World} {v : Value} {xs : List Int} (h : Owns base w v xs) : (v = .slice none 0 0 ∧ xs = []) ∨ ∃ g cap, v = .slice (some ⟨g, 0, none⟩) xs.length cap ∧ xs.length ≤ cap ∧ cap ≤ maxLen ∧ g < w.heap.size ∧ base ≤ g := by
  rcases h.2 with ⟨rfl, hn⟩ | ⟨g, cap, cur, rfl, hb, hgg, h1, h2, _, _⟩
  · exact .inl ⟨rfl, List.eq_nil_of_length_eq_zero hn⟩
  · exact .inr ⟨g, cap, rfl, h1, h2, (Array.getElem?_eq_some_iff.1 hgg).1, hb⟩
theorem Owns.cell {base : Nat} {w : World} {g cap n : Nat} {xs : List Int} (h : Owns base w (.slice (some ⟨g, 0, none⟩) n cap) xs) (j : Nat) (hj : j < xs.length) : w.cell? ⟨g, 0 + j, none⟩ = some (.int .i64 (xs.getD j 0)) := by
  have := World.ownsRow.cells h (g := g) rfl j (.int .i64 xs[j]) (by simp [hj])
  rw [show ((⟨g, 0, none⟩ : Addr).add j) = ⟨g, 0 + j, none⟩ by unfold Addr.add; split <;> simp_all] at this
  rw [this]; simp [hj]
theorem Owns.holds {base : Nat} {w : World} {g cap n : Nat} {xs : List Int} (h : Owns base w (.slice (some ⟨g, 0, none⟩) n cap) xs) : Holds (Value.int .i64) w g 0 xs.toArray := by
  intro j hj
  have hj2 : j < xs.length := by simpa using hj
  refine ⟨?_, ?_⟩
  · rw [h.cell j hj2]; simp [hj2]
  · rcases h.2 with ⟨e, _⟩ | ⟨g', cap', cur, e, _, hgg, _⟩
    · cases e
    · cases e
      simp [World.frozen?, hgg]
theorem Owns.deleted {base : Nat} {w : World} {g cap : Nat} {xs : List Int} (h : Owns base w (.slice (some ⟨g, 0, none⟩) xs.length cap) xs) (i q : Nat) (hi : i < xs.length) :
    Owns base (putRow (Value.int .i64) (Sort.ahead w q) g 0 (xs.take i ++ xs.drop (i + 1) ++ List.replicate (i + 1 - i) 0).toArray) (.slice (some ⟨g, 0, none⟩) (xs.eraseIdx i).length cap) (xs.eraseIdx i) ∧
    Keeps (fun k => k = g) w (putRow (Value.int .i64) (Sort.ahead w q) g 0 (xs.take i ++ xs.drop (i + 1) ++ List.replicate (i + 1 - i) 0).toArray) := by
  have hlen : (xs.eraseIdx i).length = xs.length - 1 := by rw [List.length_eraseIdx]; simp [hi]
  rcases h.2 with ⟨e, _⟩ | ⟨g', cap', cur, e, hb, hgg, h1, h2, h3, h4⟩
  · cases e
  · cases e
    constructor
    · refine ⟨by simp, .inr ⟨g, cap, putCells (Value.int .i64) 0 (xs.take i ++ xs.drop (i + 1) ++ List.replicate (i + 1 - i) 0).toArray cur, rfl, hb, ?_, by omega, h2, by simp [putCells, h3], ?_⟩⟩
      · show (w.heap.modify g (onCells _))[g]? = _
        rw [Array.getElem?_modify, if_pos rfl, hgg]; rfl
      · apply List.ext_getElem?
        intro j
        rw [List.getElem?_take]
        have hc : xs.length ≤ cur.size := by rw [h3]; omega
        by_cases hj : j < (xs.eraseIdx i).length
        · rw [if_pos (by omega)]
          simp only [putCells, Array.getElem?_toList, Array.getElem?_mapIdx]
          rw [Array.getElem?_eq_getElem (show j < cur.size by omega)]
          simp only [Option.map_some]
          rw [if_pos (by simp; omega), List.getElem?_map]
          rw [List.getElem?_eq_getElem hj]
          simp only [Option.map_some, Option.some.injEq, Value.int.injEq, true_and, Nat.sub_zero]
          rw [getElem!_pos _ j (by simp; omega)]
          rw [List.getElem_toArray, List.getElem_eraseIdx]
          split
          · rename_i hji
            rw [List.getElem_append_left (by simp; omega), List.getElem_append_left (by simp; omega), List.getElem_take]
          · rename_i hji
            rw [List.getElem_append_left (by simp; omega), List.getElem_append_right (by simp; omega)]
            simp only [List.getElem_drop, List.length_take]
            congr 1
            omega
        · rw [if_neg (by omega), List.getElem?_eq_none (by simp; omega)]
    · refine ⟨rfl, rfl, rfl, by simp [putRow, mapBlock, Sort.ahead], fun k _ hk => ?_⟩
      show (w.heap.modify g (onCells _))[k]? = _
      rw [Array.getElem?_modify, if_neg (fun e => hk e.symm)]
def upd (f : Nat → Value) (k : Nat) (v : Value) : Nat → Value := fun j => if j = k then v else f j
def whlCells (s : PW) (m : Nat) (sv : Nat → Value) : List Value := [.bool true, .int .i64 s.now, .int .i64 s.set] ++ (List.range 64).map sv ++ [.map (some m)]
/-- The blocks of a wheel. -/
def foot (b m : Nat) (sv : Nat → Value) (k : Nat) : Prop := k = b ∨ k = m ∨ ∃ i, i < 64 ∧ (sv i).ownBlock = some k
structure WhlAt (base : Nat) (w : World) (b m : Nat) (sv : Nat → Value) (s : PW) : Prop where
  blk : BlockIs w b (whlCells s m sv)
  map : MapIs w m (s.ts.map tmE)
  row : ∀ k, k < 64 → Owns base w (sv k) (slotOf k s.ts)
  sep : ∀ i j g, i < 64 → j < 64 → (sv i).ownBlock = some g → (sv j).ownBlock = some g → i = j
  nb : ∀ k g, k < 64 → (sv k).ownBlock = some g → g ≠ b ∧ g ≠ m
section
variable {base : Nat} {w : World} {b m : Nat} {sv : Nat → Value} {s : PW}
theorem WhlAt.mb (h : WhlAt base w b m sv s) : m ≠ b := h.map.not_block h.blk
theorem WhlAt.c0 (h : WhlAt base w b m sv s) : w.cell? ⟨b, 0, none⟩ = some (.bool true) := h.blk.cell 0
theorem WhlAt.c1 (h : WhlAt base w b m sv s) : w.cell? ⟨b, 1, none⟩ = some (.int .i64 s.now) := h.blk.cell 1
theorem WhlAt.c2 (h : WhlAt base w b m sv s) : w.cell? ⟨b, 2, none⟩ = some (.int .i64 s.set) := h.blk.cell 2
theorem WhlAt.c67 (h : WhlAt base w b m sv s) : w.cell? ⟨b, 67, none⟩ = some (.map (some m)) := by
  rw [h.blk.cell, whlCells, List.getElem?_append_right (by simp)]; simp
theorem whl_slot (s : PW) (m : Nat) (sv : Nat → Value) (k : Nat) (hk : k < 64) : (whlCells s m sv)[3 + k]? = some (sv k) := by
  rw [whlCells, List.getElem?_append_left (by simp; omega), List.getElem?_append_right (by simp)]
  simp [hk]
theorem WhlAt.cs (h : WhlAt base w b m sv s) (k : Nat) (hk : k < 64) : w.cell? ⟨b, 3 + k, none⟩ = some (sv k) := by
  rw [h.blk.cell]; exact whl_slot s m sv k hk
theorem whl_set (s : PW) (m : Nat) (sv : Nat → Value) (k : Nat) (hk : k < 64) (v : Value) : (whlCells s m sv).set (3 + k) v = whlCells s m (upd sv k v) := by
  apply List.ext_getElem?
  intro j
  rw [List.getElem?_set]
  by_cases e : 3 + k = j
  · subst e
    rw [if_pos rfl, if_pos (by simp [whlCells]; omega), whl_slot _ _ _ _ hk]; simp [upd]
  · rw [if_neg e]
    unfold whlCells
    by_cases h1 : j < 3
    · rw [List.getElem?_append_left (by simp; omega), List.getElem?_append_left (by simp; omega), List.getElem?_append_left (by simp; omega), List.getElem?_append_left (by simp; omega)]
    · by_cases h2 : j < 67
      · rw [List.getElem?_append_left (by simp; omega), List.getElem?_append_right (by simp; omega), List.getElem?_append_left (by simp; omega), List.getElem?_append_right (by simp; omega)]
        have h3 : j - 3 < 64 := by omega
        have h4 : ¬ j - 3 = k := by omega
        simp [h3, upd, h4]
      · rw [List.getElem?_append_right (by simp; omega), List.getElem?_append_right (by simp; omega)]; simp
theorem WhlAt.keeps {S : Nat → Prop} {w' : World} (h : WhlAt base w b m sv s) (k : Keeps S w w') (hf : ∀ x, foot b m sv x → ¬ S x) : WhlAt base w' b m sv s :=
  ⟨h.blk.keeps k (hf b (.inl rfl)), h.map.keeps k (hf m (.inr (.inl rfl))), fun i hi => (h.row i hi).of_same (fun g hg => k.block g (World.ownsRow.lt (h.row i hi) g hg).2 (hf g (.inr (.inr ⟨i, hi, hg⟩)))), h.sep, h.nb⟩
theorem WhlAt.below {w' : World} (h : WhlAt base w b m sv s) (k : Below w.heap.size w w') : WhlAt base w' b m sv s := h.keeps (Keeps.of_below (S := fun _ => False) k) (fun _ _ h => h)
theorem WhlAt.foot_lt (h : WhlAt base w b m sv s) {x : Nat} (hx : foot b m sv x) : x < w.heap.size := by
  rcases hx with rfl | rfl | ⟨i, hi, hg⟩
  · exact h.blk.lt
  · exact h.map.lt
  · exact (World.ownsRow.lt (h.row i hi) x hg).2
theorem WhlAt.foot_base (h : WhlAt base w b m sv s) (hb : base ≤ b) (hm : base ≤ m) {x : Nat} (hx : foot b m sv x) : base ≤ x := by
  rcases hx with rfl | rfl | ⟨i, hi, hg⟩
  · exact hb
  · exact hm
  · exact (World.ownsRow.lt (h.row i hi) x hg).1
/-- One slot, the map and the numbers turned: what is a wheel again. -/
theorem WhlAt.turn (h : WhlAt base w b m sv s) {w' : World} {s' : PW} {k : Nat} {v : Value} (hk : k < 64) (hb : BlockIs w' b (whlCells s' m (upd sv k v))) (hm : MapIs w' m (s'.ts.map tmE))
    (hr : Owns base w' v (slotOf k s'.ts)) (hv : ∀ g, v.ownBlock = some g → (sv k).ownBlock = some g ∨ w.heap.size ≤ g)
    (hs : ∀ j, j < 64 → j ≠ k → slotOf j s'.ts = slotOf j s.ts) (hkeep : Keeps (fun x => x = b ∨ x = m ∨ (sv k).ownBlock = some x) w w') :
    WhlAt base w' b m (upd sv k v) s' ∧ (∀ x, foot b m (upd sv k v) x → foot b m sv x ∨ w.heap.size ≤ x) ∧ Keeps (foot b m sv) w w' := by
  refine ⟨⟨hb, hm, ?_, ?_, ?_⟩, ?_, hkeep.mono ?_⟩
  · intro j hj
    by_cases e : j = k
    · subst e; simpa [upd] using hr
    · have : upd sv k v j = sv j := by simp [upd, e]
      rw [this, hs j hj e]
      refine (h.row j hj).of_same (fun g hg => hkeep.block g (World.ownsRow.lt (h.row j hj) g hg).2 ?_)
      rintro (rfl | rfl | hx)
      · exact (h.nb j _ hj hg).1 rfl
      · exact (h.nb j _ hj hg).2 rfl
      · exact e (h.sep j k g hj hk hg hx)
  · intro i j g hi hj hgi hgj
    have key : ∀ i, i < 64 → i ≠ k → (sv i).ownBlock = some g → ∀ u, u = v → v.ownBlock = some g → False := by
      intro i hi hik hg u _ hvg
      rcases hv g hvg with h1 | h1
      · exact hik (h.sep i k g hi hk hg h1)
      · have := (World.ownsRow.lt (h.row i hi) g hg).2; omega
    by_cases ei : i = k <;> by_cases ej : j = k
    · omega
    · simp only [upd, ei, ej, if_true, if_false] at hgi hgj
      exact (key j hj ej hgj v rfl hgi).elim
    · simp only [upd, ei, ej, if_true, if_false] at hgi hgj
      exact (key i hi ei hgi v rfl hgj).elim
    · simp only [upd, ei, ej, if_false] at hgi hgj
      exact h.sep i j g hi hj hgi hgj
  · intro j g hj hg
    by_cases e : j = k
    · simp only [upd, e, if_true] at hg
      rcases hv g hg with h1 | h1
      · exact h.nb k g hk h1
      · have := h.blk.lt
        have := h.map.lt
        omega
    · simp only [upd, e, if_false] at hg
      exact h.nb j g hj hg
  · rintro x (rfl | rfl | ⟨j, hj, hg⟩)
    · exact .inl (.inl rfl)
    · exact .inl (.inr (.inl rfl))
    · by_cases e : j = k
      · simp only [upd, e, if_true] at hg
        rcases hv x hg with h1 | h1
        · exact .inl (.inr (.inr ⟨k, hk, h1⟩))
        · exact .inr h1
      · simp only [upd, e, if_false] at hg
        exact .inl (.inr (.inr ⟨j, hj, hg⟩))
  · rintro x (rfl | rfl | hg)
    · exact .inl (.inl rfl)
    · exact .inl (.inr (.inl rfl))
    · exact .inl (.inr (.inr ⟨k, hk, hg⟩))
end
end Go.Proofs.Ytilkfcpdeeaifaa
