/- Both pools, the law's own, apart from each other: every call on either leaves the other as it was. -/
import Derived.Test.YtilkfcpdeeaifaaPoolSame
set_option linter.unusedVariables false
set_option linter.unusedSimpArgs false
set_option linter.unusedSectionVars false
namespace Go.Proofs.Ytilkfcpdeeaifaa
open Go.RowKit Go.Sort
def PTwo (w0 : World) (B pb wb wm : Nat) (gl : List Nat) (v : Value) (B' pb' xb : Nat) (gl' : List Nat) (v' : Value) (bx : List (Nat × List Value)) (s1 s2 : PS) (w : World) : Prop :=
  ∃ sv rv, PoolAt B w pb wb wm gl sv v s1 ∧ Rf.PoolAt B' w pb' xb gl' rv v' s2 ∧ (∀ x, pfoot pb gl s1.bs wb wm sv x → w0.heap.size ≤ x ∧ ¬ Rf.pfoot pb' gl' s2.bs xb rv x) ∧ (∀ x, Rf.pfoot pb' gl' s2.bs xb rv x → w0.heap.size ≤ x) ∧ Below w0.heap.size w0 w ∧ B ≤ w.heap.size ∧ B' ≤ w.heap.size ∧
    (∀ q ∈ bx, BlockIs w q.1 q.2 ∧ ¬ pfoot pb gl s1.bs wb wm sv q.1 ∧ ¬ Rf.pfoot pb' gl' s2.bs xb rv q.1)
section
variable {w0 w : World} {B pb wb wm : Nat} {gl : List Nat} {v : Value} {B' pb' xb : Nat} {gl' : List Nat} {v' : Value} {bx : List (Nat × List Value)} {s1 s2 : PS}
theorem PTwo.below0 (h : PTwo w0 B pb wb wm gl v B' pb' xb gl' v' bx s1 s2 w) : Below w0.heap.size w0 w := by obtain ⟨_, _, _, _, _, _, h, _⟩ := h; exact h
theorem bl_keep {w w' : World} {b : Nat} {cs : List Value} (h : BlockIs w b cs) (k : Below w.heap.size w w') : BlockIs w' b cs := h.keeps (Keeps.of_below (S := fun _ => False) k) (fun h => h)
theorem PTwo.below {w' : World} (h : PTwo w0 B pb wb wm gl v B' pb' xb gl' v' bx s1 s2 w) (k : Below w.heap.size w w') : PTwo w0 B pb wb wm gl v B' pb' xb gl' v' bx s1 s2 w' := by
  obtain ⟨sv, rv, h1, h2, h3, h4, h5, h6, h7, h8⟩ := h
  exact ⟨sv, rv, h1.below k, h2.below k, h3, h4, below_then h5 k, Nat.le_trans h6 k.size, Nat.le_trans h7 k.size, fun q hq => ⟨bl_keep (h8 q hq).1 k, (h8 q hq).2⟩⟩
theorem PTwo.box (h : PTwo w0 B pb wb wm gl v B' pb' xb gl' v' bx s1 s2 w) (cs : List Value) (T : TypeId) : PTwo w0 B pb wb wm gl v B' pb' xb gl' v' ((w.heap.size, cs) :: bx) s1 s2 (w.alloc (.cells cs.toArray T)) := by
  obtain ⟨sv, rv, h1, h2, h3, h4, h5, h6, h7, h8⟩ := h
  have k : Below w.heap.size w (w.alloc (.cells cs.toArray T)) := below_al (Below.refl _ _) _
  refine ⟨sv, rv, h1.below k, h2.below k, h3, h4, below_then h5 k, Nat.le_trans h6 k.size, Nat.le_trans h7 k.size, fun q hq => ?_⟩
  rcases List.mem_cons.1 hq with rfl | hq
  · exact ⟨BlockIs.new w cs T, fun hx => Nat.lt_irrefl _ (h1.foot_lt hx), fun hx => Nat.lt_irrefl _ (h2.foot_lt hx)⟩
  · exact ⟨bl_keep (h8 q hq).1 k, (h8 q hq).2⟩
theorem PTwo.setbox {g : Nat} {cs : List Value} (h : PTwo w0 B pb wb wm gl v B' pb' xb gl' v' ((g, cs) :: bx) s1 s2 w) (hg : w0.heap.size ≤ g) (hb : ∀ q ∈ bx, q.1 ≠ g) (o : Nat) (u : Value) : PTwo w0 B pb wb wm gl v B' pb' xb gl' v' ((g, cs.set o u) :: bx) s1 s2 (w.setCell ⟨g, o, none⟩ u) := by
  obtain ⟨sv, rv, h1, h2, h3, h4, h5, h6, h7, h8⟩ := h
  have h9 := h8 (g, cs) List.mem_cons_self
  have k : Keeps (fun x => x = g) w (w.setCell ⟨g, o, none⟩ u) := (Keeps.refl (fun x => x = g) _).set1 rfl _ _
  refine ⟨sv, rv, h1.keeps k (fun x hx e => h9.2.1 (e ▸ hx)), h2.keeps k (fun x hx e => h9.2.2 (e ▸ hx)), h3, h4, Below.setCell h5 hg _, by rw [size_setCell]; exact h6, by rw [size_setCell]; exact h7, fun q hq => ?_⟩
  rcases List.mem_cons.1 hq with rfl | hq
  · exact ⟨h9.1.set o u, h9.2⟩
  · exact ⟨(h8 q (List.mem_cons_of_mem _ hq)).1.far (hb q hq) u, (h8 q (List.mem_cons_of_mem _ hq)).2⟩
theorem PTwo.unbox (h : PTwo w0 B pb wb wm gl v B' pb' xb gl' v' bx s1 s2 w) : PTwo w0 B pb wb wm gl v B' pb' xb gl' v' [] s1 s2 w := by
  obtain ⟨sv, rv, h1, h2, h3, h4, h5, h6, h7, h8⟩ := h
  exact ⟨sv, rv, h1, h2, h3, h4, h5, h6, h7, fun q hq => by cases hq⟩
theorem PTwo.cells {g : Nat} {x0 x1 x2 : Value} (h : PTwo w0 B pb wb wm gl v B' pb' xb gl' v' ((g, [x0, x1, x2]) :: bx) s1 s2 w) : w.cell? ⟨g, 0, none⟩ = some x0 ∧ w.cell? ⟨g, 1, none⟩ = some x1 ∧ w.cell? ⟨g, 2, none⟩ = some x2 ∧ g < w.heap.size := by
  obtain ⟨sv, rv, h1, h2, h3, h4, h5, h6, h7, h8⟩ := h
  have hb := (h8 _ List.mem_cons_self).1
  exact ⟨hb.cell 0, hb.cell 1, hb.cell 2, hb.lt⟩
theorem PTwo.boxed {g : Nat} {cs : List Value} (h : PTwo w0 B pb wb wm gl v B' pb' xb gl' v' ((g, cs) :: bx) s1 s2 w) : BlockIs w g cs := by
  obtain ⟨sv, rv, h1, h2, h3, h4, h5, h6, h7, h8⟩ := h
  exact (h8 _ List.mem_cons_self).1
theorem PTwo.cells2 {q : Nat × List Value} {g : Nat} {x0 x1 x2 : Value} (h : PTwo w0 B pb wb wm gl v B' pb' xb gl' v' (q :: (g, [x0, x1, x2]) :: bx) s1 s2 w) : w.cell? ⟨g, 0, none⟩ = some x0 ∧ w.cell? ⟨g, 1, none⟩ = some x1 ∧ w.cell? ⟨g, 2, none⟩ = some x2 ∧ g < w.heap.size := by
  obtain ⟨sv, rv, h1, h2, h3, h4, h5, h6, h7, h8⟩ := h
  have hb := (h8 _ (List.mem_cons_of_mem _ List.mem_cons_self)).1
  exact ⟨hb.cell 0, hb.cell 1, hb.cell 2, hb.lt⟩
theorem PTwo.prog {w' : World} {s1' : PS} {sv : Nat → Value} {rv : Value} (h1 : PoolAt B w pb wb wm gl sv v s1) (h2 : Rf.PoolAt B' w pb' xb gl' rv v' s2) (h3 : ∀ x, pfoot pb gl s1.bs wb wm sv x → w0.heap.size ≤ x ∧ ¬ Rf.pfoot pb' gl' s2.bs xb rv x) (h4 : ∀ x, Rf.pfoot pb' gl' s2.bs xb rv x → w0.heap.size ≤ x) (h5 : Below w0.heap.size w0 w) (h6 : B ≤ w.heap.size) (h7 : B' ≤ w.heap.size)
    (h8 : ∀ q ∈ bx, BlockIs w q.1 q.2 ∧ ¬ pfoot pb gl s1.bs wb wm sv q.1 ∧ ¬ Rf.pfoot pb' gl' s2.bs xb rv q.1) (hp : PCore B pb wb wm gl sv v s1.bs s1' w w') : PTwo w0 B pb wb wm gl v B' pb' xb gl' v' bx s1' s2 w' := by
  obtain ⟨sv', k1, k2, k3, k4⟩ := hp
  have hn : ∀ x, pfoot pb gl s1'.bs wb wm sv' x → pfoot pb gl s1.bs wb wm sv x ∨ w.heap.size ≤ x := by
    intro x hx
    rcases hx with hx | hx
    · rw [pown_eq k2] at hx; exact .inl (.inl hx)
    · exact (k3 x hx).imp .inr id
  refine ⟨sv', rv, k1, h2.keeps k4 (fun x hx hf => (h3 x hf).2 hx), fun x hx => ?_, h4, h5.trans (k4.below h5.size (fun x hx => (h3 x hx).1)), Nat.le_trans h6 k4.size, Nat.le_trans h7 k4.size, fun q hq => ⟨(h8 q hq).1.keeps k4 (h8 q hq).2.1, fun hx => ?_, (h8 q hq).2.2⟩⟩
  · rcases hn x hx with h | h
    · exact h3 x h
    · exact ⟨Nat.le_trans h5.size h, fun hr => by have := h2.foot_lt hr; omega⟩
  · rcases hn q.1 hx with h | h
    · exact (h8 q hq).2.1 h
    · have := (h8 q hq).1.lt; omega
theorem PTwo.ref {w' : World} {s2' : PS} {sv : Nat → Value} {rv : Value} (h1 : PoolAt B w pb wb wm gl sv v s1) (h2 : Rf.PoolAt B' w pb' xb gl' rv v' s2) (h3 : ∀ x, pfoot pb gl s1.bs wb wm sv x → w0.heap.size ≤ x ∧ ¬ Rf.pfoot pb' gl' s2.bs xb rv x) (h4 : ∀ x, Rf.pfoot pb' gl' s2.bs xb rv x → w0.heap.size ≤ x) (h5 : Below w0.heap.size w0 w) (h6 : B ≤ w.heap.size) (h7 : B' ≤ w.heap.size)
    (h8 : ∀ q ∈ bx, BlockIs w q.1 q.2 ∧ ¬ pfoot pb gl s1.bs wb wm sv q.1 ∧ ¬ Rf.pfoot pb' gl' s2.bs xb rv q.1) (hp : Rf.PCore B' pb' xb gl' rv v' s2.bs s2' w w') : PTwo w0 B pb wb wm gl v B' pb' xb gl' v' bx s1 s2' w' := by
  obtain ⟨rv', k1, k2, k3, k4⟩ := hp
  have hn : ∀ x, Rf.pfoot pb' gl' s2'.bs xb rv' x → Rf.pfoot pb' gl' s2.bs xb rv x ∨ w.heap.size ≤ x := by
    intro x hx
    rcases hx with hx | hx
    · rw [pown_eq k2] at hx; exact .inl (.inl hx)
    · exact (k3 x hx).imp .inr id
  refine ⟨sv, rv', h1.keeps k4 (fun x hx hf => (h3 x hx).2 hf), k1, fun x hx => ⟨(h3 x hx).1, fun hr => ?_⟩, fun x hx => ?_, h5.trans (k4.below h5.size h4), Nat.le_trans h6 k4.size, Nat.le_trans h7 k4.size, fun q hq => ⟨(h8 q hq).1.keeps k4 (h8 q hq).2.2, (h8 q hq).2.1, fun hx => ?_⟩⟩
  · rcases hn x hr with h | h
    · exact (h3 x hx).2 h
    · have := h1.foot_lt hx; omega
  · rcases hn x hx with h | h
    · exact h4 x h
    · exact Nat.le_trans h5.size h
  · rcases hn q.1 hx with h | h
    · exact (h8 q hq).2.2 h
    · have := (h8 q hq).1.lt; omega
theorem PTwo.step {k : Nat} {F : FuncId} {args : Array Value} {s' : PS} {r : Value} (h : PTwo w0 B pb wb wm gl v B' pb' xb gl' v' bx s1 s2 w) (hr : s1.Run k) (hk : k ≤ 4611686018427387904)
    (hc : ∀ sv, PoolAt B w pb wb wm gl sv v s1 → Clock B s1 w → Calls Try.prog F args w (PPost B pb wb wm gl sv v s1.bs s' r w)) : Calls Try.prog F args w fun e w' => e = .returned r ∧ PTwo w0 B pb wb wm gl v B' pb' xb gl' v' bx s' s2 w' := by
  obtain ⟨sv, rv, h1, h2, h3, h4, h5, h6, h7, h8⟩ := h
  have hn := hr.now
  have hs := hr.set
  exact (hc sv h1 ⟨by omega, by omega, h6⟩).mono fun e w' ⟨he, hp⟩ => ⟨he, PTwo.prog h1 h2 h3 h4 h5 h6 h7 h8 hp⟩
theorem PTwo.rstep {k : Nat} {F : FuncId} {args : Array Value} {s' : PS} {r : Value} (h : PTwo w0 B pb wb wm gl v B' pb' xb gl' v' bx s1 s2 w) (hr : s2.Run k) (hk : k ≤ 4611686018427387904)
    (hc : ∀ rv, Rf.PoolAt B' w pb' xb gl' rv v' s2 → Clock B' s2 w → Calls Try.prog F args w (Rf.PPost B' pb' xb gl' rv v' s2.bs s' r w)) : Calls Try.prog F args w fun e w' => e = .returned r ∧ PTwo w0 B pb wb wm gl v B' pb' xb gl' v' bx s1 s' w' := by
  obtain ⟨sv, rv, h1, h2, h3, h4, h5, h6, h7, h8⟩ := h
  have hn := hr.now
  have hs := hr.set
  exact (hc rv h2 ⟨by omega, by omega, h7⟩).mono fun e w' ⟨he, hp⟩ => ⟨he, PTwo.ref h1 h2 h3 h4 h5 h6 h7 h8 hp⟩
variable {k : Nat}
theorem two_opened (h : PTwo w0 B pb wb wm gl v B' pb' xb gl' v' bx s1 s2 w) (hr : s1.Run k) (hk : k ≤ 4611686018427387904) (n : Int) : Calls Try.prog 9 #[.pointer (some ⟨pb, 0, none⟩), .int .i64 n] w fun e w' => e = .returned (.int .i64 (s1.openedF n).2) ∧ PTwo w0 B pb wb wm gl v B' pb' xb gl' v' bx (s1.openedF n).1 s2 w' :=
  h.step hr hk (fun sv h1 h2 => popened_any h1 hr.good n)
theorem two_ropened (h : PTwo w0 B pb wb wm gl v B' pb' xb gl' v' bx s1 s2 w) (hr : s2.Run k) (hk : k ≤ 4611686018427387904) (n : Int) : Calls Try.prog 40 #[.pointer (some ⟨pb', 0, none⟩), .int .i64 n] w fun e w' => e = .returned (.int .i64 (s2.openedF n).2) ∧ PTwo w0 B pb wb wm gl v B' pb' xb gl' v' bx s1 (s2.openedF n).1 w' :=
  h.rstep hr hk (fun rv h1 h2 => Rf.ropened_any h1 n)
theorem two_failed (h : PTwo w0 B pb wb wm gl v B' pb' xb gl' v' bx s1 s2 w) (hr : s1.Run k) (hk : k ≤ 4611686018427387904) (n : Int) : Calls Try.prog 11 #[.pointer (some ⟨pb, 0, none⟩), .int .i64 n] w fun e w' => e = .returned (.int .i64 (s1.failedF n).2) ∧ PTwo w0 B pb wb wm gl v B' pb' xb gl' v' bx (s1.failedF n).1 s2 w' :=
  h.step hr hk (fun sv h1 h2 => pfailed_any h1 hr.good h2 n)
theorem two_rfailed (h : PTwo w0 B pb wb wm gl v B' pb' xb gl' v' bx s1 s2 w) (hr : s2.Run k) (hf : s2.Fit k) (hk : k ≤ 4611686018427387904) (n : Int) : Calls Try.prog 41 #[.pointer (some ⟨pb', 0, none⟩), .int .i64 n] w fun e w' => e = .returned (.int .i64 (s2.failedF n).2) ∧ PTwo w0 B pb wb wm gl v B' pb' xb gl' v' bx s1 (s2.failedF n).1 w' :=
  h.rstep hr hk (fun rv h1 h2 => Rf.rfailed_any h1 hr.good (fun b hb => (hf b hb).2) h2 n)
theorem two_drain (h : PTwo w0 B pb wb wm gl v B' pb' xb gl' v' bx s1 s2 w) (hr : s1.Run k) (hk : k ≤ 4611686018427387904) (n : Int) : Calls Try.prog 15 #[.pointer (some ⟨pb, 0, none⟩), .int .i64 n] w fun e w' => e = .returned (.int .i64 (s1.drainF n).2) ∧ PTwo w0 B pb wb wm gl v B' pb' xb gl' v' bx (s1.drainF n).1 s2 w' :=
  h.step hr hk (fun sv h1 h2 => pdrain_any h1 hr.good h2 n)
theorem two_rdrain (h : PTwo w0 B pb wb wm gl v B' pb' xb gl' v' bx s1 s2 w) (hr : s2.Run k) (hk : k ≤ 4611686018427387904) (n : Int) : Calls Try.prog 42 #[.pointer (some ⟨pb', 0, none⟩), .int .i64 n] w fun e w' => e = .returned (.int .i64 (s2.drainF n).2) ∧ PTwo w0 B pb wb wm gl v B' pb' xb gl' v' bx s1 (s2.drainF n).1 w' :=
  h.rstep hr hk (fun rv h1 h2 => Rf.rdrain_any h1 hr.good h2 n)
theorem two_limit (h : PTwo w0 B pb wb wm gl v B' pb' xb gl' v' bx s1 s2 w) (hr : s1.Run k) (hk : k ≤ 4611686018427387904) (n m : Int) : Calls Try.prog 13 #[.pointer (some ⟨pb, 0, none⟩), .int .i64 n, .int .i64 m] w fun e w' => e = .returned (.int .i64 (s1.limitF n m).2) ∧ PTwo w0 B pb wb wm gl v B' pb' xb gl' v' bx (s1.limitF n m).1 s2 w' :=
  h.step hr hk (fun sv h1 h2 => plimit_any h1 hr.good n m)
theorem two_rlimit (h : PTwo w0 B pb wb wm gl v B' pb' xb gl' v' bx s1 s2 w) (hr : s2.Run k) (hf : s2.Fit k) (hk : k ≤ 4611686018427387904) (n m : Int) : Calls Try.prog 43 #[.pointer (some ⟨pb', 0, none⟩), .int .i64 n, .int .i64 m] w fun e w' => e = .returned (.int .i64 (s2.limitF n m).2) ∧ PTwo w0 B pb wb wm gl v B' pb' xb gl' v' bx s1 (s2.limitF n m).1 w' :=
  h.rstep hr hk (fun rv h1 h2 => Rf.rlimit_any h1 (fun b hb => (hf b hb).2) n m)
theorem two_take (h : PTwo w0 B pb wb wm gl v B' pb' xb gl' v' bx s1 s2 w) (hr : s1.Run k) (hk : k ≤ 4611686018427387904) (n : Int) : Calls Try.prog 14 #[.pointer (some ⟨pb, 0, none⟩), .int .i64 n] w fun e w' => e = .returned (.int .i64 (s1.takeF n).2) ∧ PTwo w0 B pb wb wm gl v B' pb' xb gl' v' bx (s1.takeF n).1 s2 w' :=
  h.step hr hk (fun sv h1 h2 => ptake_any h1 hr.good n)
theorem two_rtake (h : PTwo w0 B pb wb wm gl v B' pb' xb gl' v' bx s1 s2 w) (hr : s2.Run k) (hk : k ≤ 4611686018427387904) (n : Int) : Calls Try.prog 20 #[.pointer (some ⟨pb', 0, none⟩), .int .i64 n] w fun e w' => e = .returned (.int .i64 (s2.takeF n).2) ∧ PTwo w0 B pb wb wm gl v B' pb' xb gl' v' bx s1 (s2.takeF n).1 w' :=
  h.rstep hr hk (fun rv h1 h2 => Rf.rtake_any h1 hr.good n)
theorem two_put (h : PTwo w0 B pb wb wm gl v B' pb' xb gl' v' bx s1 s2 w) (hr : s1.Run k) (hk : k ≤ 4611686018427387904) (n : Int) : Calls Try.prog 17 #[.pointer (some ⟨pb, 0, none⟩), .int .i64 n] w fun e w' => e = .returned (.int .i64 (s1.putF n).2) ∧ PTwo w0 B pb wb wm gl v B' pb' xb gl' v' bx (s1.putF n).1 s2 w' :=
  h.step hr hk (fun sv h1 h2 => pput_any h1 hr.good h2 n)
theorem two_rput (h : PTwo w0 B pb wb wm gl v B' pb' xb gl' v' bx s1 s2 w) (hr : s2.Run k) (hk : k ≤ 4611686018427387904) (n : Int) : Calls Try.prog 44 #[.pointer (some ⟨pb', 0, none⟩), .int .i64 n] w fun e w' => e = .returned (.int .i64 (s2.putF n).2) ∧ PTwo w0 B pb wb wm gl v B' pb' xb gl' v' bx s1 (s2.putF n).1 w' :=
  h.rstep hr hk (fun rv h1 h2 => Rf.rput_any h1 hr.good h2 n)
theorem two_probe (h : PTwo w0 B pb wb wm gl v B' pb' xb gl' v' bx s1 s2 w) (hr : s1.Run k) (hf : s1.Fit k) (hk : k ≤ 4611686018427387904) (n : Int) (y : Bool) : Calls Try.prog 45 #[.pointer (some ⟨pb, 0, none⟩), .int .i64 n, .bool y] w fun e w' => e = .returned (.int .i64 (s1.probeF n y).2) ∧ PTwo w0 B pb wb wm gl v B' pb' xb gl' v' bx (s1.probeF n y).1 s2 w' :=
  h.step hr hk (fun sv h1 h2 => pprobe_any h1 (fun b hb => (hf b hb).1) hk n y)
theorem two_rprobe (h : PTwo w0 B pb wb wm gl v B' pb' xb gl' v' bx s1 s2 w) (hr : s2.Run k) (hf : s2.Fit k) (hk : k ≤ 4611686018427387904) (n : Int) (y : Bool) : Calls Try.prog 46 #[.pointer (some ⟨pb', 0, none⟩), .int .i64 n, .bool y] w fun e w' => e = .returned (.int .i64 (s2.probeF n y).2) ∧ PTwo w0 B pb wb wm gl v B' pb' xb gl' v' bx s1 (s2.probeF n y).1 w' :=
  h.rstep hr hk (fun rv h1 h2 => Rf.rprobe_any h1 (fun b hb => (hf b hb).1) hk n y)
theorem two_state (h : PTwo w0 B pb wb wm gl v B' pb' xb gl' v' bx s1 s2 w) (n : Int) : Calls Try.prog 16 #[.pointer (some ⟨pb, 0, none⟩), .int .i64 n] w fun e w' => e = .returned (.int .i64 (s1.stateF n)) ∧ w = w' := by
  obtain ⟨sv, rv, h1, _⟩ := h
  exact pstate_any h1 n
theorem two_rstate (h : PTwo w0 B pb wb wm gl v B' pb' xb gl' v' bx s1 s2 w) (n : Int) : Calls Try.prog 48 #[.pointer (some ⟨pb', 0, none⟩), .int .i64 n] w fun e w' => e = .returned (.int .i64 (s2.stateF n)) ∧ w = w' := by
  obtain ⟨sv, rv, _, h2, _⟩ := h
  exact Rf.rstate_any h2 n
theorem two_wait (h : PTwo w0 B pb wb wm gl v B' pb' xb gl' v' bx s1 s2 w) (n : Int) : Calls Try.prog 10 #[.pointer (some ⟨pb, 0, none⟩), .int .i64 n] w fun e w' => e = .returned (.int .i64 (s1.waitF n)) ∧ w = w' := by
  obtain ⟨sv, rv, h1, _⟩ := h
  exact pwait_any h1 n
theorem two_rwait (h : PTwo w0 B pb wb wm gl v B' pb' xb gl' v' bx s1 s2 w) (n : Int) : Calls Try.prog 49 #[.pointer (some ⟨pb', 0, none⟩), .int .i64 n] w fun e w' => e = .returned (.int .i64 (s2.waitF n)) ∧ w = w' := by
  obtain ⟨sv, rv, _, h2, _⟩ := h
  exact Rf.rwait_any h2 n
theorem two_backs (h : PTwo w0 B pb wb wm gl v B' pb' xb gl' v' bx s1 s2 w) (hr : s1.Run k) : Calls Try.prog 19 #[.pointer (some ⟨pb, 0, none⟩)] w fun e w' => ∃ r, e = .returned r ∧ Below w.heap.size w w' ∧ OwnsB w.heap.size w' r s1.bs := by
  obtain ⟨sv, rv, h1, _⟩ := h
  exact pbacks_any h1 hr.good
theorem two_rbacks (h : PTwo w0 B pb wb wm gl v B' pb' xb gl' v' bx s1 s2 w) (hr : s2.Run k) (hf : s2.Fit k) : Calls Try.prog 47 #[.pointer (some ⟨pb', 0, none⟩)] w fun e w' => ∃ r, e = .returned r ∧ Below w.heap.size w w' ∧ OwnsB w.heap.size w' r s2.bs := by
  obtain ⟨sv, rv, _, h2, _⟩ := h
  exact Rf.rbacks_any h2 hr.good (fun b hb => (hf b hb).1.st)
theorem two_ticks (h : PTwo w0 B pb wb wm gl v B' pb' xb gl' v' bx s1 s2 w) (hr : s1.Run k) (hr2 : s2.Run k) (hk : k ≤ 4611686018427387904) : Calls Try.prog 8 #[.pointer (some ⟨pb, 0, none⟩)] w fun e w1 => ∃ r1, e = .returned r1 ∧
    Calls Try.prog 39 #[.pointer (some ⟨pb', 0, none⟩)] w1 fun e w2 => ∃ r2, e = .returned r2 ∧ PTwo w0 B pb wb wm gl v B' pb' xb gl' v' bx s1.tickF.1 s2.tickF.1 w2 ∧ Owns w1.heap.size w2 r2 s2.tickF.2 ∧ Owns w.heap.size w2 r1 s1.tickF.2 := by
  obtain ⟨sv, rv, h1, h2, h3, h4, h5, h6, h7, h8⟩ := h
  have hn := hr.now
  have hs := hr.set
  have hn2 := hr2.now
  have hs2 := hr2.set
  refine (ptick_any h1 hr.good ⟨by omega, by omega, h6⟩).mono ?_
  rintro e w1 ⟨r1, rfl, hc, ho⟩
  have hlt : ∀ x, Rf.pfoot pb' gl' s2.bs xb rv x → x < w.heap.size := fun x hx => h2.foot_lt hx
  have hT := PTwo.prog h1 h2 h3 h4 h5 h6 h7 h8 hc
  have k4 : Keeps (pfoot pb gl s1.bs wb wm sv) w w1 := by obtain ⟨_, _, _, _, k4⟩ := hc; exact k4
  refine ⟨r1, rfl, ?_⟩
  have h2' := h2.keeps k4 (fun x hx hf => (h3 x hf).2 hx)
  obtain ⟨sv', q1, q2, q3, q4⟩ := hc
  have hn : ∀ x, pfoot pb gl s1.tickF.1.bs wb wm sv' x → pfoot pb gl s1.bs wb wm sv x ∨ w.heap.size ≤ x := by
    intro x hx
    rcases hx with hx | hx
    · rw [pown_eq q2] at hx; exact .inl (.inl hx)
    · exact (q3 x hx).imp .inr id
  refine (Rf.rptick_any h2' hr2.good ⟨by omega, by omega, Nat.le_trans h7 k4.size⟩).mono ?_
  rintro e w2 ⟨r2, rfl, hc2, ho2⟩
  have k5 : Keeps (Rf.pfoot pb' gl' s2.bs xb rv) w1 w2 := by obtain ⟨_, _, _, _, k5⟩ := hc2; exact k5
  refine ⟨r2, rfl, ?_, ho2, ho.of_same (fun x hx => k5.block x (World.ownsRow.lt ho x hx).2 (fun hf => by have h9 := (World.ownsRow.lt ho x hx).1; have h10 := hlt x hf; omega))⟩
  refine PTwo.ref q1 h2' (fun x hx => ?_) h4 (h5.trans (k4.below h5.size (fun x hx => (h3 x hx).1))) (Nat.le_trans h6 k4.size) (Nat.le_trans h7 k4.size) (fun q hq => ⟨(h8 q hq).1.keeps k4 (h8 q hq).2.1, fun hx => ?_, (h8 q hq).2.2⟩) hc2
  · rcases hn x hx with h | h
    · exact h3 x h
    · exact ⟨Nat.le_trans h5.size h, fun hr => by have := hlt x hr; omega⟩
  · rcases hn q.1 hx with h | h
    · exact (h8 q hq).2.1 h
    · have := (h8 q hq).1.lt; omega
end
end Go.Proofs.Ytilkfcpdeeaifaa
