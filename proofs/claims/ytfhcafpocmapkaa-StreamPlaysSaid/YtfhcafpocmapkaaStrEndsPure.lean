/- Plain: what holds of the streams behind any ops. -/
import Derived.Test.YtfhcafpocmapkaaStrPlay3
set_option linter.unusedVariables false
set_option linter.unusedSimpArgs false
set_option linter.unusedSectionVars false
namespace Go.Proofs.Ytfhcafpocmapkaa
open Go.RowKit
def cnt (f : Int → Bool) (es : List (Int × Int)) : Nat := (es.filter fun p => f p.1).length
theorem cnt_cons (f : Int → Bool) (p : Int × Int) (t : List (Int × Int)) : cnt f (p :: t) = (if f p.1 then 1 else 0) + cnt f t := by
  unfold cnt
  by_cases h : f p.1 = true
  · simp [h]; omega
  · simp [h]
theorem cnt_aput (f : Int → Bool) (k v : Int) : ∀ es : List (Int × Int), cnt f (aput k v es) ≤ cnt f es + (if f k then 1 else 0)
  | [] => by show cnt f [(k, v)] ≤ _; rw [cnt_cons]; simp [cnt]
  | p :: t => by
    have ih := cnt_aput f k v t
    unfold aput
    split
    · rename_i h
      rw [cnt_cons, cnt_cons, h]; simp only []; omega
    · rw [cnt_cons, cnt_cons]; omega
theorem cnt_aput_same (f : Int → Bool) (k v : Int) : ∀ es : List (Int × Int), (aget k es).isSome = true → cnt f (aput k v es) = cnt f es
  | [], h => by simp [aget] at h
  | p :: t, h => by
    unfold aput
    split
    · rename_i e
      rw [cnt_cons, cnt_cons, e]
    · rename_i e
      have h2 : (aget k t).isSome = true := by
        unfold aget at h ⊢
        rw [List.find?_cons, show (p.1 == k) = false by simpa using e] at h
        exact h
      rw [cnt_cons, cnt_cons, cnt_aput_same f k v t h2]
theorem cnt_adel (f : Int → Bool) (k : Int) : ∀ es : List (Int × Int), cnt f (adel k es) ≤ cnt f es
  | [] => Nat.le_refl _
  | p :: t => by
    have ih := cnt_adel f k t
    unfold adel
    split
    · rw [cnt_cons]; omega
    · rw [cnt_cons, cnt_cons]; omega
theorem ps_count (s : PS) (d : Int) : s.count d = cnt (fun x => sideI s.server x == d) s.es := rfl
theorem cnt_two (server : Bool) (es : List (Int × Int)) : es.length = cnt (fun x => sideI server x == 0) es + cnt (fun x => sideI server x == 1) es := by
  induction es with
  | nil => rfl
  | cons p t ih =>
    rw [cnt_cons, cnt_cons, List.length_cons, ih]
    unfold sideI
    cases oursB server p.1 <;> simp <;> omega
/-- What holds behind k ops. -/
structure PI (server : Bool) (may : Nat) (k : Nat) (s : PS) : Prop where
  sv : s.server = server
  m0 : s.may0 = may
  m1 : s.may1 ≤ 1024
  c0 : s.count 0 ≤ may
  c1 : s.count 1 ≤ 1024
  l0 : 0 ≤ s.last0
  l1 : 0 ≤ s.last1 ∧ s.last1 ≤ 2147483647 ∧ (s.last1 = 0 ∨ oursB s.server s.last1 = true)
  nx : s.next ≤ k
theorem PI.len {server : Bool} {may k : Nat} {s : PS} (h : PI server may k s) : s.es.length ≤ may + 1024 := by
  have h0 := h.c0
  have h1 := h.c1
  rw [ps_count] at h0 h1
  rw [cnt_two s.server s.es]
  omega
theorem PI.more {server : Bool} {may k : Nat} {s : PS} (h : PI server may k s) : PI server may (k + 1) s := ⟨h.sv, h.m0, h.m1, h.c0, h.c1, h.l0, h.l1, by have := h.nx; omega⟩
theorem PI.limit {server : Bool} {may k : Nat} {s : PS} (h : PI server may k s) (most : Int) : PI server may (k + 1) (s.limit most).1 := by
  unfold PS.limit
  split
  · exact h.more
  · exact ⟨h.sv, h.m0, Int.min_le_right _ _, h.c0, h.c1, h.l0, h.l1, by have := h.nx; show s.next ≤ _; omega⟩
theorem PI.less {server : Bool} {may k : Nat} {s : PS} (h : PI server may k s) {es : List (Int × Int)} (he : ∀ f, cnt f es ≤ cnt f s.es) : PI server may k { s with es := es } :=
  ⟨h.sv, h.m0, h.m1, Nat.le_trans (he (fun x => sideI s.server x == 0)) h.c0, Nat.le_trans (he (fun x => sideI s.server x == 1)) h.c1, h.l0, h.l1, h.nx⟩
theorem PI.drop {server : Bool} {may k : Nat} {s : PS} (h : PI server may k s) (id : Int) : PI server may (k + 1) (s.drop id) :=
  ⟨h.sv, h.m0, h.m1, h.c0, h.c1, h.l0, h.l1, by have := h.nx; show s.next + 1 ≤ _; omega⟩
theorem PI.do {server : Bool} {may k : Nat} {s : PS} (h : PI server may k s) (id what : Int) : PI server may (k + 1) (s.do id what).1 := by
  unfold PS.do
  split
  · exact h.more
  split
  · exact h.more
  simp only []
  split
  · exact h.more
  split
  · exact h.more
  split
  · exact h.more
  split
  · exact h.more
  rename_i hg
  split
  · exact (h.less (fun f => Nat.le_of_eq (cnt_aput_same f _ _ _ (by cases h9 : (aget id s.es).isSome with | true => rfl | false => exact absurd h9 hg)))).more
  split
  · exact (h.less (fun f => cnt_adel f _ _)).drop _
  · exact (h.less (fun f => cnt_adel f _ _)).more
theorem PI.peer {server : Bool} {may k : Nat} {s : PS} (h : PI server may k s) (id : Int) : PI server may (k + 1) (s.peer id).1 := by
  unfold PS.peer
  split
  · exact h.more
  rename_i hq
  have hid : 1 ≤ id := by
    cases hn : numberB id with
    | false => exact absurd (.inl hn) hq
    | true => unfold numberB at hn; rw [decide_eq_true_iff] at hn; exact hn.1
  have hours : oursB s.server id = false := by
    cases ho : oursB s.server id with
    | false => rfl
    | true => exact absurd (.inr (.inl ho)) hq
  have hb : PI server may k { s with last0 := id } := ⟨h.sv, h.m0, h.m1, h.c0, h.c1, by show 0 ≤ id; omega, h.l1, h.nx⟩
  split
  · exact hb.drop id
  · rename_i hc
    rw [h.m0] at hc
    have a0 := cnt_aput (fun x => sideI s.server x == 0) id 0 s.es
    have a1 := cnt_aput (fun x => sideI s.server x == 1) id 0 s.es
    have e0 : (sideI s.server id == 0) = true := by simp [sideI, hours]
    have e1 : (sideI s.server id == 1) = false := by simp [sideI, hours]
    simp only [e0, e1, if_true] at a0 a1
    have c0 := h.c0
    have c1 := h.c1
    rw [ps_count] at hc c0 c1
    refine ⟨h.sv, h.m0, h.m1, ?_, ?_, by show 0 ≤ id; omega, h.l1, by have := h.nx; show s.next ≤ _; omega⟩
    · show cnt (fun x => sideI s.server x == 0) (aput id 0 s.es) ≤ may
      omega
    · show cnt (fun x => sideI s.server x == 1) (aput id 0 s.es) ≤ 1024
      simp at a1
      omega
theorem own_next {server : Bool} {may k : Nat} {s : PS} (h : PI server may k s) : s.last1 < s.ownNext ∧ oursB s.server s.ownNext = true := by
  obtain ⟨h1, h2, h3⟩ := h.l1
  unfold PS.ownNext
  split
  · rename_i hz
    rw [hz.1, hz.2]
    exact ⟨by decide, by decide⟩
  · rename_i hz
    refine ⟨by omega, ?_⟩
    rcases h3 with h3 | h3
    · cases hb : s.server with
      | false => exact absurd ⟨h3, hb⟩ hz
      | true => rw [h3]; decide
    · unfold oursB at h3 ⊢
      rw [show (s.last1 + 2).tmod 2 = s.last1.tmod 2 by rw [Int.tmod_eq_emod_of_nonneg (by omega), Int.tmod_eq_emod_of_nonneg (by omega)]; omega]
      exact h3
theorem PI.own {server : Bool} {may k : Nat} {s : PS} (h : PI server may k s) : PI server may (k + 1) s.own.1 ∧ ((s.own.2.2 = 0 ∧ s.own.2.1 = s.own.1.last1 ∧ s.last1 < s.own.2.1 ∧ oursB server s.own.2.1 = true) ∨ (s.own.2.2 ≠ 0 ∧ s.own.1 = s)) := by
  obtain ⟨o1, o2⟩ := own_next h
  unfold PS.own
  split
  · exact ⟨h.more, .inr ⟨by simp, rfl⟩⟩
  rename_i hc
  split
  · exact ⟨h.more, .inr ⟨by simp, rfl⟩⟩
  rename_i hn
  have hid : 1 ≤ s.ownNext ∧ s.ownNext ≤ 2147483647 := by
    cases hn2 : numberB s.ownNext with
    | false => exact absurd hn2 hn
    | true => unfold numberB at hn2; rw [decide_eq_true_iff] at hn2; exact hn2
  have a0 := cnt_aput (fun x => sideI s.server x == 0) s.ownNext 0 s.es
  have a1 := cnt_aput (fun x => sideI s.server x == 1) s.ownNext 0 s.es
  have e0 : (sideI s.server s.ownNext == 0) = false := by simp [sideI, o2]
  have e1 : (sideI s.server s.ownNext == 1) = true := by simp [sideI, o2]
  simp only [e0, e1, if_true] at a0 a1
  have c0 := h.c0
  have m1 := h.m1
  rw [ps_count] at hc c0
  refine ⟨⟨h.sv, h.m0, h.m1, ?_, ?_, h.l0, ⟨by show 0 ≤ s.ownNext; omega, hid.2, .inr o2⟩, by have := h.nx; show s.next ≤ _; omega⟩, .inl ⟨rfl, rfl, o1, by rw [← h.sv]; exact o2⟩⟩
  · show cnt (fun x => sideI s.server x == 0) (aput s.ownNext 0 s.es) ≤ may
    simp at a0
    omega
  · show cnt (fun x => sideI s.server x == 1) (aput s.ownNext 0 s.es) ≤ 1024
    omega
theorem PI.play {server : Bool} {may k : Nat} {s : PS} (h : PI server may k s) (what id n : Int) : PI server may (k + 1) (s.play what id n) := by
  unfold PS.play
  split
  · exact h.peer id
  split
  · exact h.own.1
  split
  · exact h.do id n
  · exact h.limit n
end Go.Proofs.Ytfhcafpocmapkaa
