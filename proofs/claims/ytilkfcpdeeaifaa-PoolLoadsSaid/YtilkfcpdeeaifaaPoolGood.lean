/- What every pool keeps under every call; a pool that a law made itself. -/
import Derived.Test.YtilkfcpdeeaifaaPoolMake
set_option linter.unusedVariables false
set_option linter.unusedSimpArgs false
set_option linter.unusedSectionVars false
namespace Go.Proofs.Ytilkfcpdeeaifaa
open Go.RowKit Go.Sort
theorem PS.get_some {s : PS} {n : Int} {b : Bk} (h : s.get n = some b) : ∃ (i : Nat) (hi : i < s.bs.length), n = (i : Int) ∧ b = s.bs[i] := by
  rcases s.get_cases n with ⟨hg, _⟩ | ⟨i, hi, hn, hg⟩
  · rw [hg] at h; cases h
  · rw [hg] at h; cases h; exact ⟨i, hi, hn, rfl⟩
theorem ptdel_sub {n : Int} {t : Tm} : ∀ {l : List Tm}, t ∈ tdel n l → t ∈ l
  | [], h => by cases h
  | a :: l, h => by
    unfold tdel at h
    split at h
    · exact List.mem_cons_of_mem _ h
    · rcases List.mem_cons.1 h with rfl | h
      · exact List.mem_cons_self
      · exact List.mem_cons_of_mem _ (ptdel_sub h)
theorem setF_ids {W : PW} {n a : Int} : ∀ t ∈ (W.setF n a).1.ts, t ∈ W.ts ∨ t.id = n := by
  intro t ht
  unfold PW.setF at ht
  split at ht
  · exact .inl ht
  · split at ht
    · exact .inl ht
    · rcases List.mem_append.1 ht with h | h
      · exact .inl (ptdel_sub h)
      · rw [List.mem_singleton] at h; exact .inr (by rw [h])
theorem setF_clock (W : PW) (n a : Int) : (W.setF n a).1.now = W.now ∧ (W.setF n a).1.set ≤ W.set + 1 := by
  unfold PW.setF
  split
  · exact ⟨rfl, by show W.set ≤ _; omega⟩
  · split
    · exact ⟨rfl, by show W.set ≤ _; omega⟩
    · exact ⟨rfl, by show W.set + 1 ≤ _; omega⟩
theorem setB_good {s : PS} (h : s.Good) {i : Nat} {b : Bk} (hb : b.Good) : (s.setB i b).Good := by
  have hl : (s.setB i b).bs.length = s.bs.length := List.length_set
  refine ⟨h.W, fun t ht => by rw [hl]; exact h.ids t ht, fun q hq => ?_, h.retry, h.most, by rw [hl]; exact h.len⟩
  rcases List.mem_or_eq_of_mem_set hq with hq | rfl
  · exact h.bs q hq
  · exact hb
theorem timer_good {s : PS} (h : s.Good) {n : Int} (hn : 0 ≤ n ∧ n < s.bs.length) (a : Int) : (s.timer n a).Good :=
  ⟨PW.setF_good h.W n a, fun t ht => (setF_ids t ht).elim (h.ids t) (fun e => by rw [e]; exact hn), h.bs, h.retry, h.most, h.len⟩
/-- Behind k calls. -/
structure PS.Run (k : Nat) (s : PS) : Prop where
  good : s.Good
  now : s.W.now ≤ k
  set : s.W.set ≤ k
theorem PS.Run.same {k : Nat} {s : PS} (h : s.Run k) : s.Run (k + 1) := ⟨h.good, by have := h.now; omega, by have := h.set; omega⟩
theorem PS.Run.setB {k : Nat} {s : PS} (h : s.Run k) {i : Nat} {b : Bk} (hb : b.Good) : (s.setB i b).Run k := ⟨setB_good h.good hb, h.now, h.set⟩
theorem PS.Run.timer {k : Nat} {s : PS} (h : s.Run k) {n : Int} (hn : 0 ≤ n ∧ n < s.bs.length) (a : Int) : (s.timer n a).Run (k + 1) :=
  ⟨timer_good h.good hn a, by have := h.now; have := (setF_clock s.W n a).1; show (s.W.setF n a).1.now ≤ _; omega, by have := h.set; have := (setF_clock s.W n a).2; show (s.W.setF n a).1.set ≤ _; omega⟩
theorem set_len {s : PS} {i : Nat} {b : Bk} : (s.setB i b).bs.length = s.bs.length := List.length_set
theorem PS.Run.settle {k : Nat} {s : PS} (h : s.Run k) {i : Nat} (hi : i < s.bs.length) {b : Bk} (hb : b.Good) : (s.settleF i b).Run (k + 1) := by
  unfold PS.settleF
  split
  · split
    · exact h.same
    · exact (h.setB (b := { b with st := 0 }) ⟨hb.ld, hb.ldb, hb.may, hb.wt, hb.hd, hb.fail⟩).timer (by rw [set_len]; omega) 1
  · split
    · exact h.timer (by omega) 1
    · exact h.same
theorem PS.Run.opened {k : Nat} {s : PS} (h : s.Run k) (n : Int) : (s.openedF n).1.Run (k + 1) := by
  unfold PS.openedF
  cases hg : s.get n with
  | none => exact h.same
  | some b =>
    obtain ⟨i, hi, rfl, rfl⟩ := PS.get_some hg
    have hb := h.good.bs _ (List.getElem_mem hi)
    show (if _ then _ else _ : PS × Int).1.Run (k + 1)
    split
    · exact (h.setB (b := { s.bs[i] with st := 2, ld := 0, may := 0, wt := s.retry }) ⟨Int.le_refl 0, by show (0 : Int) ≤ _; omega, ⟨Int.le_refl 0, by show (0 : Int) ≤ _; omega⟩, h.good.retry, hb.hd, hb.fail⟩).same
    · exact h.same
theorem PS.Run.failed {k : Nat} {s : PS} (h : s.Run k) (n : Int) : (s.failedF n).1.Run (k + 1) := by
  unfold PS.failedF
  cases hg : s.get n with
  | none => exact h.same
  | some b =>
    obtain ⟨i, hi, rfl, rfl⟩ := PS.get_some hg
    have hb := h.good.bs _ (List.getElem_mem hi)
    show (if _ then _ else _ : PS × Int).1.Run (k + 1)
    split
    · refine (h.setB (b := { s.bs[i] with st := 0, ld := 0, wt := min s.most (2 * s.bs[i].wt) }) ⟨Int.le_refl 0, by show (0 : Int) ≤ _; omega, hb.may, ?_, hb.hd, hb.fail⟩).timer (by rw [set_len]; omega) _
      have h1 := hb.wt
      have h2 := h.good.most
      show 1 ≤ min s.most (2 * s.bs[i].wt) ∧ min s.most (2 * s.bs[i].wt) ≤ 1073741824
      omega
    · exact h.same
theorem PS.Run.drain {k : Nat} {s : PS} (h : s.Run k) (n : Int) : (s.drainF n).1.Run (k + 1) := by
  unfold PS.drainF
  cases hg : s.get n with
  | none => exact h.same
  | some b =>
    obtain ⟨i, hi, rfl, rfl⟩ := PS.get_some hg
    have hb := h.good.bs _ (List.getElem_mem hi)
    have hb2 : ({ s.bs[i] with st := 3 } : Bk).Good := ⟨hb.ld, hb.ldb, hb.may, hb.wt, hb.hd, hb.fail⟩
    show (if _ then _ else _ : PS × Int).1.Run (k + 1)
    split
    · exact (h.setB hb2).settle (by rw [set_len]; simpa using hi) hb2
    · exact h.same
theorem PS.Run.limit {k : Nat} {s : PS} (h : s.Run k) (n m : Int) (hm : m ≤ 9223372036854775807) : (s.limitF n m).1.Run (k + 1) := by
  unfold PS.limitF
  cases hg : s.get n with
  | none => exact h.same
  | some b =>
    obtain ⟨i, hi, rfl, rfl⟩ := PS.get_some hg
    have hb := h.good.bs _ (List.getElem_mem hi)
    show (if _ then _ else _ : PS × Int).1.Run (k + 1)
    split
    · split
      · exact h.same
      · exact (h.setB (b := { s.bs[i] with may := m }) ⟨hb.ld, hb.ldb, ⟨by show 0 ≤ m; omega, hm⟩, hb.wt, hb.hd, hb.fail⟩).same
    · exact h.same
theorem PS.Run.take {k : Nat} {s : PS} (h : s.Run k) (n : Int) : (s.takeF n).1.Run (k + 1) := by
  unfold PS.takeF
  cases hg : s.get n with
  | none => exact h.same
  | some b =>
    obtain ⟨i, hi, rfl, rfl⟩ := PS.get_some hg
    have hb := h.good.bs _ (List.getElem_mem hi)
    show (if _ then _ else _ : PS × Int).1.Run (k + 1)
    split
    · split
      · exact h.same
      · have h1 := hb.ld
        have h2 := hb.may.2
        exact (h.setB (b := { s.bs[i] with ld := s.bs[i].ld + 1 }) ⟨by show 0 ≤ s.bs[i].ld + 1; omega, by show s.bs[i].ld + 1 ≤ _; omega, hb.may, hb.wt, hb.hd, hb.fail⟩).same
    · exact h.same
theorem PS.Run.put {k : Nat} {s : PS} (h : s.Run k) (n : Int) : (s.putF n).1.Run (k + 1) := by
  unfold PS.putF
  cases hg : s.get n with
  | none => exact h.same
  | some b =>
    obtain ⟨i, hi, rfl, rfl⟩ := PS.get_some hg
    have hb := h.good.bs _ (List.getElem_mem hi)
    have h1 := hb.ld
    have h2 := hb.ldb
    show (if _ then _ else _ : PS × Int).1.Run (k + 1)
    split
    · exact h.same
    · have hb2 : ({ s.bs[i] with ld := s.bs[i].ld - 1 } : Bk).Good := ⟨by show 0 ≤ s.bs[i].ld - 1; omega, by show s.bs[i].ld - 1 ≤ _; omega, hb.may, hb.wt, hb.hd, hb.fail⟩
      split
      · exact (h.setB hb2).settle (by rw [set_len]; simpa using hi) hb2
      · exact (h.setB hb2).same
theorem dial_good {bs : List Bk} (h : ∀ b ∈ bs, b.Good) : ∀ l : List Int, ∀ b ∈ (dial bs l).1, b.Good := by
  intro l
  unfold dial
  suffices hs : ∀ (l : List Int) (p : List Bk × List Int), (∀ b ∈ p.1, b.Good) → ∀ b ∈ (l.foldl dial1 p).1, b.Good from hs l (bs, []) h
  intro l
  induction l with
  | nil => intro p hp; exact hp
  | cons n l ih =>
    intro p hp
    rw [List.foldl_cons]
    refine ih _ ?_
    unfold dial1
    split
    · exact hp
    · rename_i b hb
      have hg := hp b (List.mem_of_getElem? hb)
      split
      · intro q hq
        rcases List.mem_or_eq_of_mem_set hq with hq | rfl
        · exact hp q hq
        · exact ⟨hg.ld, hg.ldb, hg.may, hg.wt, hg.hd, hg.fail⟩
      · exact hp
theorem PS.Run.tick {k : Nat} {s : PS} (h : s.Run k) : s.tickF.1.Run (k + 1) := by
  have hl : s.tickF.1.bs.length = s.bs.length := (dial_len _ _).trans (List.length_map _)
  refine ⟨⟨PW.tickF_good h.good.W, fun t ht => ?_, ?_, h.good.retry, h.good.most, by rw [hl]; exact h.good.len⟩, by have := h.now; show s.W.now + 1 ≤ _; omega, by have := h.set; show s.W.set ≤ _; omega⟩
  · rw [hl]
    exact h.good.ids t (List.mem_filter.1 ht).1
  · refine dial_good (fun b hb => ?_) _
    obtain ⟨q, hq, rfl⟩ := List.mem_map.1 hb
    have := h.good.bs q hq
    have h1 := this.hd
    exact ⟨this.ld, this.ldb, this.may, this.wt, by show 0 ≤ max 0 (q.md.hd - 1) ∧ max 0 (q.md.hd - 1) ≤ _; omega, this.fail⟩
theorem NewOk.run {n : Nat} {f r h retry most : Int} {s : PS} (o : NewOk n f r h retry most s) (hn : n ≤ 16) (hf : 1 ≤ f) (hh : 0 ≤ h ∧ h ≤ 1073741824) (ht : 1 ≤ retry ∧ retry ≤ 1073741824) (hm : 1 ≤ most ∧ most ≤ 1073741824) : s.Run n := by
  refine ⟨⟨by rw [o.W]; exact newW_good (by omega), fun t ht => ?_, fun b hb => ?_, by rw [o.re]; exact ht, by rw [o.mo]; exact hm, by rw [o.len]; exact hn⟩, by rw [o.W]; show (0 : Int) ≤ _; omega, by rw [o.W]; exact Int.le_refl _⟩
  · rw [o.W] at ht
    obtain ⟨i, hi, rfl⟩ := List.mem_map.1 ht
    have := List.mem_range.1 hi
    rw [o.len]
    show 0 ≤ (i : Int) ∧ (i : Int) < n
    omega
  · obtain ⟨mb, rfl⟩ := o.bs b hb
    exact ⟨Int.le_refl 0, by show (0 : Int) ≤ _; omega, ⟨Int.le_refl 0, by show (0 : Int) ≤ _; omega⟩, ht, ⟨Int.le_refl 0, by show (0 : Int) ≤ _; omega⟩, by show f ≠ 0; omega⟩
/-- The law's own pool. -/
def POwn (w0 : World) (B pb wb wm : Nat) (gl : List Nat) (v : Value) (s : PS) (w : World) : Prop :=
  ∃ sv, PoolAt B w pb wb wm gl sv v s ∧ (∀ x, pfoot pb gl s.bs wb wm sv x → w0.heap.size ≤ x) ∧ Below w0.heap.size w0 w ∧ B ≤ w.heap.size
section
variable {w0 w : World} {B pb wb wm : Nat} {gl : List Nat} {v : Value} {s : PS}
theorem POwn.below0 (h : POwn w0 B pb wb wm gl v s w) : Below w0.heap.size w0 w := by obtain ⟨_, _, _, h, _⟩ := h; exact h
theorem POwn.below {w' : World} (h : POwn w0 B pb wb wm gl v s w) (k : Below w.heap.size w w') : POwn w0 B pb wb wm gl v s w' := by
  obtain ⟨sv, h1, h2, h3, h4⟩ := h
  exact ⟨sv, h1.below k, h2, below_then h3 k, Nat.le_trans h4 k.size⟩
theorem POwn.core {sv : Nat → Value} {w' : World} {s' : PS} (h2 : ∀ x, pfoot pb gl s.bs wb wm sv x → w0.heap.size ≤ x) (h3 : Below w0.heap.size w0 w) (h4 : B ≤ w.heap.size) (hc : PCore B pb wb wm gl sv v s.bs s' w w') : POwn w0 B pb wb wm gl v s' w' := by
  obtain ⟨sv', k1, k2, k3, k4⟩ := hc
  refine ⟨sv', k1, fun x hx => ?_, h3.trans (k4.below h3.size h2), Nat.le_trans h4 k4.size⟩
  rcases hx with hx | hx
  · rw [pown_eq k2] at hx; exact h2 x (.inl hx)
  · rcases k3 x hx with h | h
    · exact h2 x (.inr h)
    · exact Nat.le_trans h3.size h
theorem POwn.step {k : Nat} {F : FuncId} {args : Array Value} {s' : PS} {r : Value} (h : POwn w0 B pb wb wm gl v s w) (hr : s.Run k) (hk : k ≤ 4611686018427387904)
    (hc : ∀ sv, PoolAt B w pb wb wm gl sv v s → Clock B s w → Calls Try.prog F args w (PPost B pb wb wm gl sv v s.bs s' r w)) : Calls Try.prog F args w fun e w' => e = .returned r ∧ POwn w0 B pb wb wm gl v s' w' := by
  obtain ⟨sv, h1, h2, h3, h4⟩ := h
  have hn := hr.now
  have hs := hr.set
  exact (hc sv h1 ⟨by omega, by omega, h4⟩).mono fun e w' ⟨he, hp⟩ => ⟨he, POwn.core h2 h3 h4 hp⟩
theorem own_pnew (n : Nat) (f r h retry most : Int) (hn : n ≤ 16) (hf : 1 ≤ f ∧ f ≤ 1000) (hr : 1 ≤ r ∧ r ≤ 1000) (hh : 0 ≤ h ∧ h ≤ 1073741824) (ht : 1 ≤ retry ∧ retry ≤ 1073741824) (hm : 1 ≤ most ∧ most ≤ 1073741824) (hrm : retry ≤ most) (hb : Below w0.heap.size w0 w) :
    Calls Try.prog 7 #[.int .i64 n, .agg #[.int .i64 f, .int .i64 r, .int .i64 h], .int .i64 retry, .int .i64 most] w fun e w' => ∃ B pb wb wm gl v s, e = .returned (.tuple #[.pointer (some ⟨pb, 0, none⟩), .int .i64 0]) ∧ POwn w0 B pb wb wm gl v s w' ∧ NewOk n f r h retry most s := by
  refine (pnew_any n f r h retry most hn hf hr hh ht hm hrm w).mono ?_
  rintro e w' ⟨B, pb, wb, wm, gl, sv, v, s, rfl, h1, h2, h3, h4, h5, h6⟩
  exact ⟨B, pb, wb, wm, gl, v, s, rfl, ⟨sv, h1, fun x hx => Nat.le_trans hb.size (Nat.le_trans h5 (h2 x hx)), below_then hb h4, h6⟩, h3⟩
variable {k : Nat}
theorem own_opened (h : POwn w0 B pb wb wm gl v s w) (hr : s.Run k) (hk : k ≤ 4611686018427387904) (n : Int) : Calls Try.prog 9 #[.pointer (some ⟨pb, 0, none⟩), .int .i64 n] w fun e w' => e = .returned (.int .i64 (s.openedF n).2) ∧ POwn w0 B pb wb wm gl v (s.openedF n).1 w' :=
  h.step hr hk (fun sv h1 h2 => popened_any h1 hr.good n)
theorem own_failed (h : POwn w0 B pb wb wm gl v s w) (hr : s.Run k) (hk : k ≤ 4611686018427387904) (n : Int) : Calls Try.prog 11 #[.pointer (some ⟨pb, 0, none⟩), .int .i64 n] w fun e w' => e = .returned (.int .i64 (s.failedF n).2) ∧ POwn w0 B pb wb wm gl v (s.failedF n).1 w' :=
  h.step hr hk (fun sv h1 h2 => pfailed_any h1 hr.good h2 n)
theorem own_drain (h : POwn w0 B pb wb wm gl v s w) (hr : s.Run k) (hk : k ≤ 4611686018427387904) (n : Int) : Calls Try.prog 15 #[.pointer (some ⟨pb, 0, none⟩), .int .i64 n] w fun e w' => e = .returned (.int .i64 (s.drainF n).2) ∧ POwn w0 B pb wb wm gl v (s.drainF n).1 w' :=
  h.step hr hk (fun sv h1 h2 => pdrain_any h1 hr.good h2 n)
theorem own_limit (h : POwn w0 B pb wb wm gl v s w) (hr : s.Run k) (hk : k ≤ 4611686018427387904) (n m : Int) : Calls Try.prog 13 #[.pointer (some ⟨pb, 0, none⟩), .int .i64 n, .int .i64 m] w fun e w' => e = .returned (.int .i64 (s.limitF n m).2) ∧ POwn w0 B pb wb wm gl v (s.limitF n m).1 w' :=
  h.step hr hk (fun sv h1 h2 => plimit_any h1 hr.good n m)
theorem own_take (h : POwn w0 B pb wb wm gl v s w) (hr : s.Run k) (hk : k ≤ 4611686018427387904) (n : Int) : Calls Try.prog 14 #[.pointer (some ⟨pb, 0, none⟩), .int .i64 n] w fun e w' => e = .returned (.int .i64 (s.takeF n).2) ∧ POwn w0 B pb wb wm gl v (s.takeF n).1 w' :=
  h.step hr hk (fun sv h1 h2 => ptake_any h1 hr.good n)
theorem own_put (h : POwn w0 B pb wb wm gl v s w) (hr : s.Run k) (hk : k ≤ 4611686018427387904) (n : Int) : Calls Try.prog 17 #[.pointer (some ⟨pb, 0, none⟩), .int .i64 n] w fun e w' => e = .returned (.int .i64 (s.putF n).2) ∧ POwn w0 B pb wb wm gl v (s.putF n).1 w' :=
  h.step hr hk (fun sv h1 h2 => pput_any h1 hr.good h2 n)
theorem own_state (h : POwn w0 B pb wb wm gl v s w) (n : Int) : Calls Try.prog 16 #[.pointer (some ⟨pb, 0, none⟩), .int .i64 n] w fun e w' => e = .returned (.int .i64 (s.stateF n)) ∧ w = w' := by
  obtain ⟨sv, h1, _⟩ := h
  exact pstate_any h1 n
theorem own_wait (h : POwn w0 B pb wb wm gl v s w) (n : Int) : Calls Try.prog 10 #[.pointer (some ⟨pb, 0, none⟩), .int .i64 n] w fun e w' => e = .returned (.int .i64 (s.waitF n)) ∧ w = w' := by
  obtain ⟨sv, h1, _⟩ := h
  exact pwait_any h1 n
theorem own_ptick (h : POwn w0 B pb wb wm gl v s w) (hr : s.Run k) (hk : k ≤ 4611686018427387904) : Calls Try.prog 8 #[.pointer (some ⟨pb, 0, none⟩)] w fun e w' => ∃ p c, e = .returned (.slice p s.tickF.2.length c) ∧ POwn w0 B pb wb wm gl v s.tickF.1 w' ∧ Owns w.heap.size w' (.slice p s.tickF.2.length c) s.tickF.2 := by
  obtain ⟨sv, h1, h2, h3, h4⟩ := h
  have hn := hr.now
  have hs := hr.set
  refine (ptick_any h1 hr.good ⟨by omega, by omega, h4⟩).mono ?_
  rintro e w' ⟨r, rfl, hc, ho⟩
  obtain ⟨p, c, hv⟩ : ∃ p c, r = .slice p s.tickF.2.length c := by
    rcases ho.form with ⟨hd, h0⟩ | ⟨g, cap', hd, _⟩
    · rw [h0]; exact ⟨none, 0, hd⟩
    · exact ⟨_, _, hd⟩
  rw [hv] at ho
  exact ⟨p, c, by rw [hv], POwn.core h2 h3 h4 hc, ho⟩
end
end Go.Proofs.Ytilkfcpdeeaifaa
