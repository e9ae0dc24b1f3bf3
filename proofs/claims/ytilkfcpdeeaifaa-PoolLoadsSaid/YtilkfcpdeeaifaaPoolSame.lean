/- Two pools that are the same but for where their models lie: every call makes them so again. -/
import Derived.Test.YtilkfcpdeeaifaaPoolProbe
import Derived.Test.YtilkfcpdeeaifaaRPoolBacks
import Derived.Test.YtilkfcpdeeaifaaRPoolMake
import Derived.Test.YtilkfcpdeeaifaaRPoolDo2
import Derived.Test.YtilkfcpdeeaifaaPoolOne
import Derived.Test.YtilkfcpdeeaifaaOps19
set_option linter.unusedVariables false
set_option linter.unusedSimpArgs false
set_option linter.unusedSectionVars false
namespace Go.Proofs.Ytilkfcpdeeaifaa
open Go.RowKit Go.Sort
def Bk.z (b : Bk) : Bk := { b with mb := 0 }
def PS.strip (s : PS) : PS := { s with bs := s.bs.map Bk.z }
theorem strip_get (s : PS) (n : Int) : s.strip.get n = (s.get n).map Bk.z := by
  unfold PS.get PS.strip
  split
  · rfl
  · simp
theorem strip_setB (s : PS) (i : Nat) (b : Bk) : (s.setB i b).strip = s.strip.setB i b.z := by
  unfold PS.strip PS.setB
  simp [List.map_set]
theorem strip_timer (s : PS) (n a : Int) : (s.timer n a).strip = s.strip.timer n a := rfl
theorem strip_settle (s : PS) (i : Nat) (b : Bk) : (s.settleF i b).strip = s.strip.settleF i b.z := by
  unfold PS.settleF
  show _ = if b.st = 3 then (if 0 < b.ld then _ else _) else if b.st = 0 then _ else _
  split
  · split
    · rfl
    · rw [strip_timer, strip_setB]; rfl
  · split <;> rfl
/-- A call that looks at one backend. -/
theorem strip_opened (s : PS) (n : Int) : (s.openedF n).1.strip = (s.strip.openedF n).1 ∧ (s.openedF n).2 = (s.strip.openedF n).2 := by
  unfold PS.openedF
  rw [strip_get]
  cases s.get n with
  | none => exact ⟨rfl, rfl⟩
  | some b =>
    simp only [Option.map_some]
    by_cases h : [(1 : Int)].contains b.st = true
    · rw [if_pos h, if_pos (show [(1 : Int)].contains b.z.st = true from h)]
      exact ⟨strip_setB _ _ _, rfl⟩
    · rw [if_neg h, if_neg (show ¬ [(1 : Int)].contains b.z.st = true from h)]
      exact ⟨rfl, rfl⟩
theorem strip_failed (s : PS) (n : Int) : (s.failedF n).1.strip = (s.strip.failedF n).1 ∧ (s.failedF n).2 = (s.strip.failedF n).2 := by
  unfold PS.failedF
  rw [strip_get]
  cases s.get n with
  | none => exact ⟨rfl, rfl⟩
  | some b =>
    simp only [Option.map_some]
    by_cases h : [(1 : Int), 2, 3].contains b.st = true
    · rw [if_pos h, if_pos (show [(1 : Int), 2, 3].contains b.z.st = true from h)]
      exact ⟨by rw [strip_timer, strip_setB]; rfl, rfl⟩
    · rw [if_neg h, if_neg (show ¬ [(1 : Int), 2, 3].contains b.z.st = true from h)]
      exact ⟨rfl, rfl⟩
theorem strip_drain (s : PS) (n : Int) : (s.drainF n).1.strip = (s.strip.drainF n).1 ∧ (s.drainF n).2 = (s.strip.drainF n).2 := by
  unfold PS.drainF
  rw [strip_get]
  cases s.get n with
  | none => exact ⟨rfl, rfl⟩
  | some b =>
    simp only [Option.map_some]
    by_cases h : [(2 : Int)].contains b.st = true
    · rw [if_pos h, if_pos (show [(2 : Int)].contains b.z.st = true from h)]
      exact ⟨by rw [strip_settle, strip_setB]; rfl, rfl⟩
    · rw [if_neg h, if_neg (show ¬ [(2 : Int)].contains b.z.st = true from h)]
      exact ⟨rfl, rfl⟩
theorem strip_limit (s : PS) (n k : Int) : (s.limitF n k).1.strip = (s.strip.limitF n k).1 ∧ (s.limitF n k).2 = (s.strip.limitF n k).2 := by
  unfold PS.limitF
  rw [strip_get]
  cases s.get n with
  | none => exact ⟨rfl, rfl⟩
  | some b =>
    simp only [Option.map_some]
    by_cases h : [(2 : Int), 3].contains b.st = true
    · rw [if_pos h, if_pos (show [(2 : Int), 3].contains b.z.st = true from h)]
      by_cases hk : k < 0
      · rw [if_pos hk, if_pos hk]; exact ⟨rfl, rfl⟩
      · rw [if_neg hk, if_neg hk]; exact ⟨strip_setB _ _ _, rfl⟩
    · rw [if_neg h, if_neg (show ¬ [(2 : Int), 3].contains b.z.st = true from h)]
      exact ⟨rfl, rfl⟩
theorem strip_take (s : PS) (n : Int) : (s.takeF n).1.strip = (s.strip.takeF n).1 ∧ (s.takeF n).2 = (s.strip.takeF n).2 := by
  unfold PS.takeF
  rw [strip_get]
  cases s.get n with
  | none => exact ⟨rfl, rfl⟩
  | some b =>
    simp only [Option.map_some]
    by_cases h : [(2 : Int)].contains b.st = true
    · rw [if_pos h, if_pos (show [(2 : Int)].contains b.z.st = true from h)]
      by_cases hk : b.may ≤ b.ld
      · rw [if_pos hk, if_pos (show b.z.may ≤ b.z.ld from hk)]; exact ⟨rfl, rfl⟩
      · rw [if_neg hk, if_neg (show ¬ b.z.may ≤ b.z.ld from hk)]; exact ⟨strip_setB _ _ _, rfl⟩
    · rw [if_neg h, if_neg (show ¬ [(2 : Int)].contains b.z.st = true from h)]
      exact ⟨rfl, rfl⟩
theorem strip_put (s : PS) (n : Int) : (s.putF n).1.strip = (s.strip.putF n).1 ∧ (s.putF n).2 = (s.strip.putF n).2 := by
  unfold PS.putF
  rw [strip_get]
  cases s.get n with
  | none => exact ⟨rfl, rfl⟩
  | some b =>
    simp only [Option.map_some]
    by_cases h : b.ld = 0
    · rw [if_pos h, if_pos (show b.z.ld = 0 from h)]; exact ⟨rfl, rfl⟩
    · rw [if_neg h, if_neg (show ¬ b.z.ld = 0 from h)]
      by_cases h3 : b.st = 3
      · rw [if_pos h3, if_pos (show b.z.st = 3 from h3)]
        exact ⟨by rw [strip_settle, strip_setB]; rfl, rfl⟩
      · rw [if_neg h3, if_neg (show ¬ b.z.st = 3 from h3)]
        exact ⟨strip_setB _ _ _, rfl⟩
theorem strip_probe (s : PS) (n : Int) (g : Bool) : (s.probeF n g).1.strip = (s.strip.probeF n g).1 ∧ (s.probeF n g).2 = (s.strip.probeF n g).2 := by
  unfold PS.probeF
  rw [strip_get]
  cases s.get n with
  | none => exact ⟨rfl, rfl⟩
  | some b => exact ⟨strip_setB _ _ _, rfl⟩
theorem strip_state (s : PS) (n : Int) : s.stateF n = s.strip.stateF n := by
  unfold PS.stateF
  rw [strip_get]
  cases s.get n <;> rfl
theorem strip_wait (s : PS) (n : Int) : s.waitF n = s.strip.waitF n := by
  unfold PS.waitF
  rw [strip_get]
  cases s.get n <;> rfl
theorem dial_z : ∀ (l : List Int) (p : List Bk × List Int), l.foldl dial1 (p.1.map Bk.z, p.2) = ((l.foldl dial1 p).1.map Bk.z, (l.foldl dial1 p).2)
  | [], p => rfl
  | n :: l, p => by
    rw [List.foldl_cons, List.foldl_cons, ← dial_z l (dial1 p n)]
    congr 1
    unfold dial1
    simp only [List.getElem?_map]
    cases p.1[n.toNat]? with
    | none => rfl
    | some b =>
      simp only [Option.map_some]
      by_cases h : b.st = 0
      · rw [if_pos h, if_pos (show b.z.st = 0 from h)]
        simp [List.map_set, Bk.z]
      · rw [if_neg h, if_neg (show ¬ b.z.st = 0 from h)]
theorem strip_tick (s : PS) : s.tickF.1.strip = s.strip.tickF.1 ∧ s.tickF.2 = s.strip.tickF.2 := by
  have h : dial (s.strip.bs.map Bk.tick) s.W.tickF.2 = (((dial (s.bs.map Bk.tick) s.W.tickF.2).1).map Bk.z, (dial (s.bs.map Bk.tick) s.W.tickF.2).2) := by
    unfold dial
    rw [← dial_z]
    congr 2
    unfold PS.strip
    simp [Bk.tick, Bk.z, Function.comp_def]
  unfold PS.tickF
  constructor
  · show ({ retry := s.retry, most := s.most, W := s.W.tickF.1, bs := (dial (s.bs.map Bk.tick) s.W.tickF.2).1.map Bk.z } : PS) = { retry := s.retry, most := s.most, W := s.W.tickF.1, bs := (dial (s.strip.bs.map Bk.tick) s.W.tickF.2).1 }
    rw [h]
  · show (dial (s.bs.map Bk.tick) s.W.tickF.2).2 = (dial (s.strip.bs.map Bk.tick) s.W.tickF.2).2
    rw [h]
/-- A call of the script. -/
def PS.opF (s : PS) (o : Op3) : PS :=
  if o.what = 0 then s.tickF.1 else if o.what = 1 then (s.openedF o.id).1 else if o.what = 2 then (s.failedF o.id).1 else if o.what = 3 then (s.drainF o.id).1
  else if o.what = 4 then (s.limitF o.id o.n).1 else if o.what = 5 then (s.takeF o.id).1 else if o.what = 6 then (s.putF o.id).1 else (s.probeF o.id (o.n == 1)).1
theorem strip_op (s : PS) (o : Op3) : (s.opF o).strip = s.strip.opF o := by
  unfold PS.opF
  split
  · exact (strip_tick s).1
  split
  · exact (strip_opened s _).1
  split
  · exact (strip_failed s _).1
  split
  · exact (strip_drain s _).1
  split
  · exact (strip_limit s _ _).1
  split
  · exact (strip_take s _).1
  split
  · exact (strip_put s _).1
  · exact (strip_probe s _ _).1
/-- States and models within their bounds. -/
def PS.Fit (k : Nat) (s : PS) : Prop := ∀ b ∈ s.bs, b.md.Fit k ∧ 0 ≤ b.st ∧ b.st ≤ 3
theorem PS.Fit.mono {k k' : Nat} {s : PS} (h : s.Fit k) (hk : k ≤ k') : s.Fit k' := fun b hb => ⟨(h b hb).1.mono hk, (h b hb).2⟩
theorem PS.Fit.setB {k : Nat} {s : PS} (h : s.Fit k) {i : Nat} {b : Bk} (hb : b.md.Fit k ∧ 0 ≤ b.st ∧ b.st ≤ 3) : (s.setB i b).Fit k := by
  intro q hq
  rcases List.mem_or_eq_of_mem_set hq with hq | rfl
  · exact h q hq
  · exact hb
theorem PS.Fit.timer {k : Nat} {s : PS} (h : s.Fit k) (n a : Int) : (s.timer n a).Fit k := h
theorem PS.Fit.settle {k : Nat} {s : PS} (h : s.Fit k) {i : Nat} {b : Bk} (hb : b.md.Fit k) : (s.settleF i b).Fit k := by
  unfold PS.settleF
  split
  · split
    · exact h
    · exact (h.setB (b := { b with st := 0 }) ⟨hb, by show (0 : Int) ≤ 0 ∧ (0 : Int) ≤ 3; omega⟩).timer _ _
  · split
    · exact h
    · exact h
theorem fit_get {k : Nat} {s : PS} (h : s.Fit k) {n : Int} {b : Bk} (hg : s.get n = some b) : b.md.Fit k ∧ 0 ≤ b.st ∧ b.st ≤ 3 := by
  obtain ⟨i, hi, _, rfl⟩ := PS.get_some hg
  exact h _ (List.getElem_mem hi)
theorem dial_fit {k : Nat} : ∀ (l : List Int) (p : List Bk × List Int), (∀ b ∈ p.1, b.md.Fit k ∧ 0 ≤ b.st ∧ b.st ≤ 3) → ∀ b ∈ (l.foldl dial1 p).1, b.md.Fit k ∧ 0 ≤ b.st ∧ b.st ≤ 3
  | [], p, h => h
  | n :: l, p, h => by
    rw [List.foldl_cons]
    refine dial_fit l _ ?_
    unfold dial1
    split
    · exact h
    · rename_i b hb
      split
      · intro q hq
        rcases List.mem_or_eq_of_mem_set hq with hq | rfl
        · exact h q hq
        · exact ⟨(h b (List.mem_of_getElem? hb)).1, by show (0 : Int) ≤ 1 ∧ (1 : Int) ≤ 3; omega⟩
      · exact h
theorem PS.Fit.op {k : Nat} {s : PS} (h : s.Fit k) (o : Op3) : (s.opF o).Fit (k + 1) := by
  have hm : s.Fit (k + 1) := h.mono (Nat.le_succ k)
  unfold PS.opF
  split
  · refine dial_fit _ _ (fun b hb => ?_)
    obtain ⟨q, hq, rfl⟩ := List.mem_map.1 hb
    exact ⟨(hm q hq).1.tick, (hm q hq).2⟩
  split
  · unfold PS.openedF
    cases hg : s.get o.id with
    | none => exact hm
    | some b =>
      show PS.Fit _ (if _ then _ else _ : PS × Int).1
      split
      · exact hm.setB ⟨(fit_get hm hg).1, by show (0 : Int) ≤ 2 ∧ (2 : Int) ≤ 3; omega⟩
      · exact hm
  split
  · unfold PS.failedF
    cases hg : s.get o.id with
    | none => exact hm
    | some b =>
      show PS.Fit _ (if _ then _ else _ : PS × Int).1
      split
      · exact (hm.setB (b := { b with st := 0, ld := 0, wt := min s.most (2 * b.wt) }) ⟨(fit_get hm hg).1, by show (0 : Int) ≤ 0 ∧ (0 : Int) ≤ 3; omega⟩).timer _ _
      · exact hm
  split
  · unfold PS.drainF
    cases hg : s.get o.id with
    | none => exact hm
    | some b =>
      show PS.Fit _ (if _ then _ else _ : PS × Int).1
      split
      · exact (hm.setB (b := { b with st := 3 }) ⟨(fit_get hm hg).1, by show (0 : Int) ≤ 3 ∧ (3 : Int) ≤ 3; omega⟩).settle (fit_get hm hg).1
      · exact hm
  split
  · unfold PS.limitF
    cases hg : s.get o.id with
    | none => exact hm
    | some b =>
      show PS.Fit _ (if _ then _ else _ : PS × Int).1
      split
      · split
        · exact hm
        · exact hm.setB (b := { b with may := o.n }) ⟨(fit_get hm hg).1, (fit_get hm hg).2⟩
      · exact hm
  split
  · unfold PS.takeF
    cases hg : s.get o.id with
    | none => exact hm
    | some b =>
      show PS.Fit _ (if _ then _ else _ : PS × Int).1
      split
      · split
        · exact hm
        · exact hm.setB (b := { b with ld := b.ld + 1 }) ⟨(fit_get hm hg).1, (fit_get hm hg).2⟩
      · exact hm
  split
  · unfold PS.putF
    cases hg : s.get o.id with
    | none => exact hm
    | some b =>
      show PS.Fit _ (if _ then _ else _ : PS × Int).1
      split
      · exact hm
      · split
        · exact (hm.setB (b := { b with ld := b.ld - 1 }) ⟨(fit_get hm hg).1, (fit_get hm hg).2⟩).settle (fit_get hm hg).1
        · exact hm.setB (b := { b with ld := b.ld - 1 }) ⟨(fit_get hm hg).1, (fit_get hm hg).2⟩
  · unfold PS.probeF
    cases hg : s.get o.id with
    | none => exact hm
    | some b => exact hm.setB (b := { b with md := b.md.probe (o.n == 1) }) ⟨(fit_get h hg).1.probe _, (fit_get h hg).2⟩
theorem PS.Run.probe {k : Nat} {s : PS} (h : s.Run k) (hf : s.Fit k) (n : Int) (g : Bool) : (s.probeF n g).1.Run (k + 1) := by
  unfold PS.probeF
  cases hg : s.get n with
  | none => exact h.same
  | some b =>
    obtain ⟨i, hi, rfl, rfl⟩ := PS.get_some hg
    have hb := h.good.bs _ (List.getElem_mem hi)
    have hm := (hf _ (List.getElem_mem hi)).1.probe g
    exact (h.setB (b := { s.bs[i] with md := s.bs[i].md.probe g }) ⟨hb.ld, hb.ldb, hb.may, hb.wt, hm.hd, by have := hm.fail; show (s.bs[i].md.probe g).fail ≠ 0; omega⟩).same
theorem PS.Run.op {k : Nat} {s : PS} (h : s.Run k) (hf : s.Fit k) {o : Op3} (ho : o.n ≤ 9223372036854775807) : (s.opF o).Run (k + 1) := by
  unfold PS.opF
  split
  · exact h.tick
  split
  · exact h.opened _
  split
  · exact h.failed _
  split
  · exact h.drain _
  split
  · exact h.limit _ _ ho
  split
  · exact h.take _
  split
  · exact h.put _
  · exact h.probe hf _ _
theorem op_len (s : PS) (o : Op3) : (s.opF o).bs.length = s.bs.length := by
  have hs : ∀ (s : PS) i b, (s.setB i b).bs.length = s.bs.length := fun s i b => List.length_set
  have ht : ∀ (s : PS) n a, (s.timer n a).bs.length = s.bs.length := fun _ _ _ => rfl
  have hse : ∀ (s : PS) i b, (s.settleF i b).bs.length = s.bs.length := by
    intro s i b
    unfold PS.settleF
    split
    · split
      · rfl
      · rw [ht, hs]
    · split
      · rfl
      · rfl
  unfold PS.opF
  split
  · exact (dial_len _ _).trans (List.length_map _)
  split
  · unfold PS.openedF
    cases s.get o.id with
    | none => rfl
    | some b => simp only; split <;> simp [hs]
  split
  · unfold PS.failedF
    cases s.get o.id with
    | none => rfl
    | some b => simp only; split <;> simp [hs, ht]
  split
  · unfold PS.drainF
    cases s.get o.id with
    | none => rfl
    | some b => simp only; split <;> simp [hs, hse]
  split
  · unfold PS.limitF
    cases s.get o.id with
    | none => rfl
    | some b =>
      simp only
      split
      · split
        · rfl
        · exact hs _ _ _
      · rfl
  split
  · unfold PS.takeF
    cases s.get o.id with
    | none => rfl
    | some b =>
      simp only
      split
      · split
        · rfl
        · exact hs _ _ _
      · rfl
  split
  · unfold PS.putF
    cases s.get o.id with
    | none => rfl
    | some b =>
      simp only
      split
      · rfl
      · split
        · rw [hse, hs]
        · exact hs _ _ _
  · unfold PS.probeF
    cases s.get o.id with
    | none => rfl
    | some b => simp [hs]
/-- What one of two like pools keeps, the other keeps. -/
theorem like_mem {s1 s2 : PS} (h : s1.strip = s2.strip) {b : Bk} (hb : b ∈ s2.bs) : ∃ q ∈ s1.bs, q.z = b.z := by
  have h1 : s1.bs.map Bk.z = s2.bs.map Bk.z := by have := congrArg PS.bs h; exact this
  have h2 : b.z ∈ s1.bs.map Bk.z := by rw [h1]; exact List.mem_map_of_mem hb
  obtain ⟨q, hq, e⟩ := List.mem_map.1 h2
  exact ⟨q, hq, e⟩
theorem like_len {s1 s2 : PS} (h : s1.strip = s2.strip) : s1.bs.length = s2.bs.length := by
  have h1 : s1.bs.map Bk.z = s2.bs.map Bk.z := by have := congrArg PS.bs h; exact this
  simpa using congrArg List.length h1
theorem like_W {s1 s2 : PS} (h : s1.strip = s2.strip) : s1.W = s2.W := by have := congrArg PS.W h; exact this
theorem like_retry {s1 s2 : PS} (h : s1.strip = s2.strip) : s1.retry = s2.retry := by have := congrArg PS.retry h; exact this
theorem like_most {s1 s2 : PS} (h : s1.strip = s2.strip) : s1.most = s2.most := by have := congrArg PS.most h; exact this
theorem like_fit {s1 s2 : PS} (h : s1.strip = s2.strip) {k : Nat} (hf : s1.Fit k) : s2.Fit k := by
  intro b hb
  obtain ⟨q, hq, e⟩ := like_mem h hb
  have e1 : q.md = b.md := by have := congrArg Bk.md e; exact this
  have e2 : q.st = b.st := by have := congrArg Bk.st e; exact this
  rw [← e1, ← e2]
  exact hf q hq
theorem like_run {s1 s2 : PS} (h : s1.strip = s2.strip) {k : Nat} (hr : s1.Run k) : s2.Run k := by
  have hW := like_W h
  refine ⟨⟨by rw [← hW]; exact hr.good.W, fun t ht => ?_, fun b hb => ?_, by rw [← like_retry h]; exact hr.good.retry, by rw [← like_most h]; exact hr.good.most, by rw [← like_len h]; exact hr.good.len⟩, by rw [← hW]; exact hr.now, by rw [← hW]; exact hr.set⟩
  · rw [← like_len h]
    exact hr.good.ids t (by rw [hW]; exact ht)
  · obtain ⟨q, hq, e⟩ := like_mem h hb
    have := hr.good.bs q hq
    have e1 : q.md = b.md := by have := congrArg Bk.md e; exact this
    have e2 : q.ld = b.ld := by have := congrArg Bk.ld e; exact this
    have e3 : q.may = b.may := by have := congrArg Bk.may e; exact this
    have e4 : q.wt = b.wt := by have := congrArg Bk.wt e; exact this
    exact ⟨e2 ▸ this.ld, e2 ▸ this.ldb, e3 ▸ this.may, e4 ▸ this.wt, e1 ▸ this.hd, e1 ▸ this.fail⟩
theorem like_backs {s1 s2 : PS} (h : s1.strip = s2.strip) : s1.bs.flatMap bvC = s2.bs.flatMap bvC := by
  have h1 : s1.bs.map Bk.z = s2.bs.map Bk.z := by have := congrArg PS.bs h; exact this
  have h2 : ∀ l : List Bk, l.flatMap bvC = (l.map Bk.z).flatMap bvC := fun l => by
    rw [List.flatMap_map]; rfl
  rw [h2 s1.bs, h2 s2.bs, h1]
theorem new_like {n : Nat} {f r h retry most : Int} {s1 s2 : PS} (h1 : NewOk n f r h retry most s1) (h2 : NewOk n f r h retry most s2) : s1.strip = s2.strip := by
  have hb : ∀ s : PS, NewOk n f r h retry most s → s.bs.map Bk.z = List.replicate n ⟨0, ⟨f, r, h, 0, 0, 0⟩, 0, 0, 0, retry⟩ := by
    intro s hs
    refine List.eq_replicate_iff.2 ⟨by rw [List.length_map]; exact hs.len, fun b hb => ?_⟩
    obtain ⟨q, hq, rfl⟩ := List.mem_map.1 hb
    obtain ⟨mb, e⟩ := hs.bs q hq
    rw [e]; rfl
  unfold PS.strip
  rw [hb s1 h1, hb s2 h2, h1.re, h2.re, h1.mo, h2.mo, h1.W, h2.W]
theorem new_fit {n : Nat} {f r h retry most : Int} {s : PS} (o : NewOk n f r h retry most s) (hf : 1 ≤ f ∧ f ≤ 1000) (hr : 1 ≤ r ∧ r ≤ 1000) (hh : 0 ≤ h ∧ h ≤ 1073741824) (k : Nat) : s.Fit k := by
  intro b hb
  obtain ⟨mb, e⟩ := o.bs b hb
  rw [e]
  exact ⟨⟨hf, hr, hh, .inl rfl, by show (0 : Int) ≤ 0 ∧ (0 : Int) ≤ _; omega, by show (0 : Int) ≤ 0 ∧ (0 : Int) ≤ _; omega⟩, by show (0 : Int) ≤ 0 ∧ (0 : Int) ≤ 3; omega⟩
end Go.Proofs.Ytilkfcpdeeaifaa
