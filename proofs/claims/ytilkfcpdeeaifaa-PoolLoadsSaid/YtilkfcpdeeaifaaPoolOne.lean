/- A pool of one backend: what the calls make of it, plain; the law's awake. -/
import Derived.Test.YtilkfcpdeeaifaaPoolGood
set_option linter.unusedVariables false
set_option linter.unusedSimpArgs false
set_option linter.unusedSectionVars false
namespace Go.Proofs.Ytilkfcpdeeaifaa
open Go.RowKit Go.Sort
theorem PS.Run.mono {k k' : Nat} {s : PS} (h : s.Run k) (hk : k ≤ k') : s.Run k' := ⟨h.good, by have := h.now; omega, by have := h.set; omega⟩
def timerAt (n : Int) (ts : List Tm) : Option Int → Prop
  | none => ts = []
  | some d => ∃ q, ts = [⟨0, n + d, q⟩]
/-- One backend, and its timer. -/
structure OneS (f t : Int) (K : Nat) (st ld may nx : Int) (d : Option Int) (s : PS) : Prop where
  run : s.Run K
  re : s.retry = f
  mo : s.most = t
  bs : ∃ mb md, s.bs = [⟨mb, md, st, ld, may, nx⟩]
  tm : timerAt s.W.now s.W.ts d
variable {f t : Int} {K : Nat} {st ld may nx : Int} {d : Option Int} {s : PS}
theorem OneS.mono {K' : Nat} (h : OneS f t K st ld may nx d s) (hk : K ≤ K') : OneS f t K' st ld may nx d s := ⟨h.run.mono hk, h.re, h.mo, h.bs, h.tm⟩
theorem OneS.get (h : OneS f t K st ld may nx d s) : ∃ mb md, s.bs = [⟨mb, md, st, ld, may, nx⟩] ∧ s.get 0 = some ⟨mb, md, st, ld, may, nx⟩ ∧ (⟨mb, md, st, ld, may, nx⟩ : Bk).Good := by
  obtain ⟨mb, md, e⟩ := h.bs
  refine ⟨mb, md, e, ?_, h.run.good.bs _ (by rw [e]; exact List.mem_singleton.2 rfl)⟩
  unfold PS.get
  rw [if_neg (by omega), e]; rfl
theorem one_new {fl r hh : Int} (o : NewOk 1 fl r hh f t s) (hf : 1 ≤ fl) (hd : 0 ≤ hh ∧ hh ≤ 1073741824) (ht : 1 ≤ f ∧ f ≤ 1073741824) (hm : 1 ≤ t ∧ t ≤ 1073741824) : OneS f t 1 0 0 0 f (some 1) s := by
  refine ⟨o.run (by omega) hf hd ht hm, o.re, o.mo, ?_, ?_⟩
  · have hl := o.len
    match hb : s.bs, hl with
    | [b], _ =>
      obtain ⟨mb, e⟩ := o.bs b (by rw [hb]; exact List.mem_singleton.2 rfl)
      exact ⟨mb, _, by rw [e]⟩
  · rw [o.W]
    exact ⟨0, rfl⟩
theorem setF_one {W : PW} {n a : Int} (h1 : 0 ≤ n) (h2 : 1 ≤ a) (h3 : a ≤ 1073741824) (he : W.ts = []) : (W.setF n a).1.ts = [⟨n, W.now + a, W.set⟩] ∧ (W.setF n a).1.now = W.now := by
  unfold PW.setF
  rw [if_neg (by omega), if_neg (by rw [he]; rintro ⟨_, h⟩; simp at h), he]
  exact ⟨rfl, rfl⟩
theorem one_timer {s' : PS} {K' : Nat} {a : Int} (hr : (s'.timer 0 a).Run K') (hre : s'.retry = f) (hmo : s'.most = t) (hb : ∃ mb md, s'.bs = [⟨mb, md, st, ld, may, nx⟩]) (h1 : 1 ≤ a) (h2 : a ≤ 1073741824) (he : s'.W.ts = []) : OneS f t K' st ld may nx (some a) (s'.timer 0 a) := by
  obtain ⟨q1, q2⟩ := setF_one (W := s'.W) (n := 0) (a := a) (by omega) h1 h2 he
  exact ⟨hr, hre, hmo, hb, ⟨s'.W.set, by show (s'.W.setF 0 a).1.ts = _; rw [q1]; show _ = [(⟨0, (s'.W.setF 0 a).1.now + a, s'.W.set⟩ : Tm)]; rw [q2]⟩⟩
theorem one_tick_more {a : Int} (h : OneS f t K st ld may nx (some a) s) (ha : a ≠ 1) : s.tickF.2 = [] ∧ OneS f t (K + 1) st ld may nx (some (a - 1)) s.tickF.1 := by
  obtain ⟨mb, md, e⟩ := h.bs
  obtain ⟨q, hq⟩ := h.tm
  have hd : dueB (s.W.now + 1) ⟨0, s.W.now + a, q⟩ = false := by unfold dueB; simp; omega
  have h2 : s.W.tickF.2 = [] := by
    unfold PW.tickF
    simp only
    rw [hq, List.filter_cons_of_neg (by rw [hd]; simp)]; rfl
  have h3 : s.W.tickF.1.ts = [⟨0, s.W.now + a, q⟩] := by
    unfold PW.tickF
    simp only
    rw [hq, List.filter_cons_of_pos (by rw [hd]; rfl)]; rfl
  refine ⟨?_, h.run.tick, h.re, h.mo, ?_, ?_⟩
  · unfold PS.tickF
    simp only
    rw [h2]; rfl
  · unfold PS.tickF
    simp only
    rw [h2, e]
    exact ⟨mb, md.tick, rfl⟩
  · show timerAt s.W.tickF.1.now s.W.tickF.1.ts _
    rw [h3]
    exact ⟨q, by show _ = [(⟨0, s.W.now + 1 + (a - 1), q⟩ : Tm)]; congr 2; omega⟩
theorem one_tick_due (h : OneS f t K 0 ld may nx (some 1) s) : s.tickF.2 = [0] ∧ OneS f t (K + 1) 1 ld may nx none s.tickF.1 := by
  obtain ⟨mb, md, e⟩ := h.bs
  obtain ⟨q, hq⟩ := h.tm
  have hd : dueB (s.W.now + 1) ⟨0, s.W.now + 1, q⟩ = true := by unfold dueB; simp
  have h2 : s.W.tickF.2 = [0] := by
    unfold PW.tickF
    simp only
    rw [hq, List.filter_cons_of_pos hd]; rfl
  have h3 : s.W.tickF.1.ts = [] := by
    unfold PW.tickF
    simp only
    rw [hq, List.filter_cons_of_neg (by rw [hd]; simp)]; rfl
  refine ⟨?_, h.run.tick, h.re, h.mo, ?_, ?_⟩
  · unfold PS.tickF
    simp only
    rw [h2, e]; rfl
  · unfold PS.tickF
    simp only
    rw [h2, e]
    exact ⟨mb, md.tick, rfl⟩
  · show timerAt s.W.tickF.1.now s.W.tickF.1.ts _
    rw [h3]
    rfl
theorem one_opened (h : OneS f t K 1 ld may nx none s) : (s.openedF 0).2 = 0 ∧ OneS f t (K + 1) 2 0 0 f none (s.openedF 0).1 := by
  have hr := h.run.opened 0
  obtain ⟨mb, md, e, hg, _⟩ := h.get
  unfold PS.openedF at hr ⊢
  rw [hg] at hr ⊢
  refine ⟨rfl, hr, h.re, h.mo, ⟨mb, md, ?_⟩, h.tm⟩
  show s.bs.set 0 _ = _
  rw [e, ← h.re]; rfl
theorem one_failed (h : OneS f t K st ld may nx none s) (hs : st = 1 ∨ st = 2 ∨ st = 3) : (s.failedF 0).2 = 0 ∧ OneS f t (K + 1) 0 0 may (min t (2 * nx)) (some nx) (s.failedF 0).1 := by
  have hr := h.run.failed 0
  obtain ⟨mb, md, e, hg, hb⟩ := h.get
  have hw : 1 ≤ nx ∧ nx ≤ 1073741824 := hb.wt
  have hc : [(1 : Int), 2, 3].contains st = true := by rcases hs with rfl | rfl | rfl <;> decide
  unfold PS.failedF at hr ⊢
  rw [hg] at hr ⊢
  simp only [hc, if_true] at hr ⊢
  refine ⟨trivial, one_timer hr h.re h.mo ⟨mb, md, ?_⟩ hw.1 hw.2 h.tm⟩
  show s.bs.set 0 _ = _
  rw [e, ← h.mo]; rfl
theorem one_failed_no (h : OneS f t K 0 ld may nx d s) : (s.failedF 0).2 = 5 ∧ (s.failedF 0).1 = s := by
  obtain ⟨mb, md, e, hg, hb⟩ := h.get
  unfold PS.failedF
  rw [hg]
  exact ⟨rfl, rfl⟩
theorem one_limit {k : Int} (h : OneS f t K 2 ld may nx d s) (hk : 0 ≤ k) (hk2 : k ≤ 9223372036854775807) : (s.limitF 0 k).2 = 0 ∧ OneS f t (K + 1) 2 ld k nx d (s.limitF 0 k).1 := by
  have hr := h.run.limit 0 k hk2
  obtain ⟨mb, md, e, hg, hb⟩ := h.get
  have hc : [(2 : Int), 3].contains 2 = true := by decide
  unfold PS.limitF at hr ⊢
  rw [hg] at hr ⊢
  simp only [hc, if_true, if_neg (show ¬ k < 0 by omega)] at hr ⊢
  refine ⟨trivial, hr, h.re, h.mo, ⟨mb, md, ?_⟩, h.tm⟩
  show s.bs.set 0 _ = _
  rw [e]; rfl
theorem one_take (h : OneS f t K 2 ld may nx d s) (hl : ld < may) : (s.takeF 0).2 = 0 ∧ OneS f t (K + 1) 2 (ld + 1) may nx d (s.takeF 0).1 := by
  have hr := h.run.take 0
  obtain ⟨mb, md, e, hg, hb⟩ := h.get
  have hc : [(2 : Int)].contains 2 = true := by decide
  unfold PS.takeF at hr ⊢
  rw [hg] at hr ⊢
  simp only [hc, if_true, if_neg (show ¬ may ≤ ld by omega)] at hr ⊢
  refine ⟨trivial, hr, h.re, h.mo, ⟨mb, md, ?_⟩, h.tm⟩
  show s.bs.set 0 _ = _
  rw [e]; rfl
theorem one_take_no (h : OneS f t K st ld may nx d s) (hs : st ≠ 2) : (s.takeF 0).2 = 5 ∧ (s.takeF 0).1 = s := by
  obtain ⟨mb, md, e, hg, hb⟩ := h.get
  have hc : [(2 : Int)].contains st = false := by simp; omega
  unfold PS.takeF
  rw [hg]
  simp only [hc]
  exact ⟨rfl, rfl⟩
theorem one_drain_more (h : OneS f t K 2 ld may nx none s) (hl : 0 < ld) : (s.drainF 0).2 = 0 ∧ OneS f t (K + 1) 3 ld may nx none (s.drainF 0).1 := by
  have hr := h.run.drain 0
  obtain ⟨mb, md, e, hg, hb⟩ := h.get
  have hc : [(2 : Int)].contains 2 = true := by decide
  unfold PS.drainF at hr ⊢
  rw [hg] at hr ⊢
  simp only [hc, if_true, PS.settleF, if_pos hl] at hr ⊢
  refine ⟨trivial, hr, h.re, h.mo, ⟨mb, md, ?_⟩, h.tm⟩
  show s.bs.set 0 _ = _
  rw [e]; rfl
theorem one_drain_last (h : OneS f t K 2 0 may nx none s) : (s.drainF 0).2 = 0 ∧ OneS f t (K + 1) 0 0 may nx (some 1) (s.drainF 0).1 := by
  have hr := h.run.drain 0
  obtain ⟨mb, md, e, hg, hb⟩ := h.get
  have hc : [(2 : Int)].contains 2 = true := by decide
  unfold PS.drainF at hr ⊢
  rw [hg] at hr ⊢
  simp only [hc, if_true, PS.settleF, if_neg (show ¬ (0 : Int) < 0 by omega)] at hr ⊢
  refine ⟨trivial, one_timer hr h.re h.mo ⟨mb, md, ?_⟩ (by omega) (by omega) h.tm⟩
  show (s.bs.set 0 _).set 0 _ = _
  rw [e]; rfl
theorem one_put_more (h : OneS f t K 3 ld may nx none s) (hl : 1 < ld) : (s.putF 0).2 = 0 ∧ OneS f t (K + 1) 3 (ld - 1) may nx none (s.putF 0).1 := by
  have hr := h.run.put 0
  obtain ⟨mb, md, e, hg, hb⟩ := h.get
  unfold PS.putF at hr ⊢
  rw [hg] at hr ⊢
  simp only [if_neg (show ¬ ld = 0 by omega), if_true, PS.settleF, if_pos (show 0 < ld - 1 by omega)] at hr ⊢
  refine ⟨trivial, hr, h.re, h.mo, ⟨mb, md, ?_⟩, h.tm⟩
  show s.bs.set 0 _ = _
  rw [e]; rfl
theorem one_put_last (h : OneS f t K 3 1 may nx none s) : (s.putF 0).2 = 0 ∧ OneS f t (K + 1) 0 0 may nx (some 1) (s.putF 0).1 := by
  have hr := h.run.put 0
  obtain ⟨mb, md, e, hg, hb⟩ := h.get
  unfold PS.putF at hr ⊢
  rw [hg] at hr ⊢
  simp only [if_neg (show ¬ (1 : Int) = 0 by omega), if_true, PS.settleF, if_neg (show ¬ (0 : Int) < 1 - 1 by omega)] at hr ⊢
  refine ⟨trivial, one_timer hr h.re h.mo ⟨mb, md, ?_⟩ (by omega) (by omega) h.tm⟩
  show (s.bs.set 0 _).set 0 _ = _
  rw [e]; rfl
theorem one_state (h : OneS f t K st ld may nx d s) : s.stateF 0 = st := by
  obtain ⟨mb, md, e, hg, hb⟩ := h.get
  unfold PS.stateF
  rw [hg]
theorem one_wait (h : OneS f t K st ld may nx d s) : s.waitF 0 = nx := by
  obtain ⟨mb, md, e, hg, hb⟩ := h.get
  unfold PS.waitF
  rw [hg]
end Go.Proofs.Ytilkfcpdeeaifaa
