/- The walk of the reference pool's New: every pool that may be. -/
import Derived.Test.YtilkfcpdeeaifaaRPoolNew
set_option linter.unusedVariables false
set_option linter.unusedSimpArgs false
set_option linter.unusedSectionVars false
namespace Go.Proofs.Ytilkfcpdeeaifaa.Rf
open Go.RowKit Go.Sort
theorem NewAt.pb_ne {base pb xb : Nat} {w : World} {sv : Value} {v : Value} {s : PS} (h : NewAt base w pb xb sv v s) (x : Nat) (hx : v.ownBlock = some x) : x ≠ pb := by
  rintro rfl
  exact (List.nodup_cons.1 h.nod).1 (List.mem_append_left _ (by rw [hx]; simp))
def PNew (n : Nat) (f r h retry most : Int) (w : World) (e : Ending) (w' : World) : Prop :=
  ∃ B pb xb gl sv v s, e = .returned (.tuple #[.pointer (some ⟨pb, 0, none⟩), .int .i64 0]) ∧ PoolAt B w' pb xb gl sv v s ∧ (∀ x, pfoot pb gl s.bs xb sv x → B ≤ x) ∧ NewOk n f r h retry most s ∧ Below w.heap.size w w' ∧ w.heap.size ≤ B ∧ B ≤ w'.heap.size
theorem ibk : (Try.prog.info? 76).map (fun i => (i.zero, i.size, i.bytes)) = some (some (.agg #[.pointer none, .int .i64 0, .int .i64 0, .int .i64 0, .int .i64 0]), 5, 40) := by kernel_rfl
set_option maxHeartbeats 4000000 in
set_option maxRecDepth 100000 in
theorem rpnew_any (n : Nat) (f r h retry most : Int) (hn : n ≤ 16) (hf : 1 ≤ f ∧ f ≤ 1000) (hr : 1 ≤ r ∧ r ≤ 1000) (hh : 0 ≤ h ∧ h ≤ 1073741824) (ht : 1 ≤ retry ∧ retry ≤ 1073741824) (hm : 1 ≤ most ∧ most ≤ 1073741824) (hrm : retry ≤ most) (w : World) :
    Calls Try.prog 18 #[.int .i64 n, .agg #[.int .i64 f, .int .i64 r, .int .i64 h], .int .i64 retry, .int .i64 most] w (PNew n f r h retry most w) := by
  have HH := Lib.hid (fun w => hnew_any f r h hf hr hh w)
  obtain ⟨ht1, ht2⟩ := ht
  obtain ⟨hm1, hm2⟩ := hm
  clear hf hr hh
  have HX := Lib.hid (BlockIs.new w [.int .i64 f, .int .i64 r, .int .i64 h] 27)
  go_enter Try.func18, Try.ntmps18
  go_wp2_with fail
  refine (HH.out _).mono ?_
  rintro e w1 ⟨mb0, rfl, _, _, hb1⟩
  have HX1 := Lib.hid (HX.out.of_same (hb1.block _ (by simp)))
  have HB1 : Hid (Below w.heap.size w w1) := Lib.hid (below_then (below_al (Below.refl _ _) _) hb1)
  have HXL : Hid (w.heap.size < w1.heap.size) := Lib.hid (by have := hb1.size; simp at this; omega)
  clear hb1
  have q1 : decide ((n : Int) < 0) = false := by simp
  have q2 : decide (16 < (n : Int)) = false := by simp; omega
  have q3 : decide (most < retry) = false := by simp; omega
  have q4 : decide (retry < 1) = false := by simp; omega
  have q5 : decide (1073741824 < retry) = false := by simp; omega
  have q6 : decide (most < 1) = false := by simp; omega
  have q7 : decide (1073741824 < most) = false := by simp; omega
  clear ht1 ht2 hm1 hm2
  go_wp2_with fail
  refine (rnewT_any _).mono ?_
  rintro e w2 ⟨b, rfl, hw2, hbb, hb2⟩
  have HX2 := Lib.hid (HX1.out.of_same (hb2.block _ HXL.out))
  have HN0 : Hid (NewAt w1.heap.size (w2.alloc (.cells #[.slice none 0 0, .pointer (some ⟨b, 0, none⟩), .int .i64 retry, .int .i64 most] 74)) w2.heap.size b (.slice none 0 0) (.slice none 0 0) ⟨retry, most, newWj 0, []⟩) := Lib.hid (by
    refine ⟨BlockIs.new w2 _ _, World.ownsRow_nil _ _ _ _, fun b hb => (by cases hb), ?_, by simp [pown, Value.ownBlock], ?_, ?_⟩
    · rw [newWj_zero]; exact hw2.below (below_al (Below.refl _ _) _)
    · intro x hx hf
      have h1 : x = w2.heap.size := by simpa [pown, Value.ownBlock] using hx
      have := hw2.foot_lt hf
      omega
    · intro x hx
      rcases hx with hx | hx
      · have h1 : x = w2.heap.size := by simpa [pown, Value.ownBlock] using hx
        have := hb2.size
        omega
      · rcases hx with rfl | h
        · exact hbb
        · cases h)
  have HB2 : Hid (Below w1.heap.size w1 (w2.alloc (.cells #[.slice none 0 0, .pointer (some ⟨b, 0, none⟩), .int .i64 retry, .int .i64 most] 74))) := Lib.hid (below_al hb2 _)
  clear hw2 hbb hb2
  go_wp2_with fail
  obtain ⟨pb, hpb⟩ : ∃ pb, pb = w2.heap.size := ⟨_, rfl⟩
  generalize hw3 : w2.alloc (.cells #[.slice none 0 0, .pointer (some ⟨b, 0, none⟩), .int .i64 retry, .int .i64 most] 74) = w3 at *
  rw [← hpb] at HN0 ⊢
  clear hw3 hpb HX2
  obtain ⟨B, hB⟩ : ∃ B, B = w1.heap.size := ⟨_, rfl⟩
  rw [← hB] at HN0 HB2 HXL
  have HBB := Lib.hid hB
  clear hB
  go_loopw [13] (fun i wr => ∃ (j : Nat) (svj : Value) (vj : Value) (sj : PS), j ≤ n ∧ i = .int .i64 j ∧ Hid (NewAt B wr pb b svj vj sj) ∧ Hid (NewOk j f r h retry most sj) ∧ Hid (Below B w1 wr)) (fun i _ => n - (intOf i).toNat)
  case atStart => exact ⟨0, _, _, _, by omega, rfl, HN0, Lib.hid ⟨rfl, rfl, rfl, rfl, fun b hb => (by cases hb)⟩, HB2⟩
  case round =>
    obtain ⟨j, svj, vj, sj, hj, rfl, HNJ, HOK, HBJ⟩ := hrel
    have HXJ := Lib.hid (HX1.out.of_same (HBJ.out.block _ HXL.out))
    have x0 : wr.cell? ⟨w.heap.size, 0, none⟩ = some (.int .i64 f) := HXJ.out.cell 0
    have x1 : wr.cell? ⟨w.heap.size, 1, none⟩ = some (.int .i64 r) := HXJ.out.cell 1
    have x2 : wr.cell? ⟨w.heap.size, 2, none⟩ = some (.int .i64 h) := HXJ.out.cell 2
    have xl := HXJ.out.lt
    have HSB : Hid (B ≤ wr.heap.size) := Lib.hid (by rw [HBB.out]; exact HBJ.out.size)
    by_cases hlt : j < n
    · go_wp2_with fail
      refine (HH.out _).mono ?_
      rintro e w4 ⟨mb, rfl, hmb, hml, hb4⟩
      have HMB := Lib.hid hmb
      have HML := Lib.hid hml
      have HB4 := Lib.hid hb4
      have HBLK := Lib.hid (HNJ.out.blk.of_same (hb4.block pb HNJ.out.blk.lt))
      obtain ⟨y0, y1, y2, y3⟩ : w4.cell? ⟨pb, 0, none⟩ = some vj ∧ w4.cell? ⟨pb, 1, none⟩ = some (.pointer (some ⟨b, 0, none⟩)) ∧ w4.cell? ⟨pb, 2, none⟩ = some (.int .i64 sj.retry) ∧ pb < w4.heap.size := ⟨HBLK.out.cell 0, HBLK.out.cell 1, HBLK.out.cell 2, HBLK.out.lt⟩
      have HROW : Hid (w4.ownsRow B 76 5 vj sj.bs.length (sj.bs.flatMap bkC)) := Lib.hid ⟨HNJ.out.row.1, by
        rcases HNJ.out.row.2 with hn | ⟨g, cap, cur, e, hb, hgg, rest⟩
        · exact .inl hn
        · exact .inr ⟨g, cap, cur, e, hb, (hb4.block g (Array.getElem?_eq_some_iff.1 hgg).1).trans hgg, rest⟩⟩
      have hln := HOK.out.len
      have hsb4 : B ≤ w4.heap.size := Nat.le_trans HSB.out hb4.size
      clear hmb hml hb4 x0 x1 x2 xl
      obtain ⟨pv, nv, cv, hvj⟩ : ∃ pv nv cv, vj = .slice pv nv cv := by
        rcases HNJ.out.row.2 with ⟨e, _⟩ | ⟨g, cap, cur, e, _⟩
        · exact ⟨_, _, _, e⟩
        · exact ⟨_, _, _, e⟩
      subst hvj
      obtain ⟨i0, hi, hz0, hz1, hz2⟩ := info_parts ibk
      go_wp2_with (at_builtin; refine wpList_push rfl _ _ 72 rfl B 76 i0 (.agg #[.pointer none, .int .i64 0, .int .i64 0, .int .i64 0, .int .i64 0]) 5 40 Try.underlying72 hi hz0 hz1 hz2 rfl (by decide) _ sj.bs.length (sj.bs.flatMap bkC) rfl (HROW.out.alloc _) ⟨w4.heap.size, 0, none⟩ 1 (bkC ⟨mb, ⟨f, r, h, 0, 0, 0⟩, 0, 0, 0, retry⟩) rfl rfl ?c1 ?c2 (by unfold maxLen; omega) (by omega) (by simp; omega) ?_; (case c1 => (intro q u hu; rw [add_none, Nat.zero_add]; exact ((BlockIs.new w4 (bkC ⟨mb, ⟨f, r, h, 0, 0, 0⟩, 0, 0, 0, retry⟩) _).cell q).trans hu)); (case c2 => (intro u hu; simp [bkC] at hu; rcases hu with rfl | rfl | rfl | rfl | rfl <;> rfl)); intro g' cap' w5 ho5 hg5 hn5; have HO5 := Lib.hid ho5; have HG5 := Lib.hid hg5; have HN5 := Lib.hid hn5; have hb5 := (HBLK.out.alloc (.cells #[.pointer (some ⟨mb, 0, none⟩), .int .i64 0, .int .i64 0, .int .i64 0, .int .i64 retry] 76)).of_same (hg5.block pb (by simp; omega) (fun e => HNJ.out.pb_ne pb e.symm rfl)); obtain ⟨z0, z1, z2, z3⟩ : w5.cell? ⟨pb, 0, none⟩ = some (.slice pv nv cv) ∧ w5.cell? ⟨pb, 1, none⟩ = some (.pointer (some ⟨b, 0, none⟩)) ∧ w5.cell? ⟨pb, 2, none⟩ = some (.int .i64 sj.retry) ∧ pb < w5.heap.size := ⟨hb5.cell 0, hb5.cell 1, hb5.cell 2, hb5.lt⟩; have z4 := hb5.free 0; clear ho5 hg5 hn5 hb5)
      have hp := NewAt.push (wt := retry) HNJ.out HSB.out HB4.out HMB.out HML.out HG5.out HO5.out HN5.out
      rw [hln] at hp
      have hsz : B ≤ (w5.setCell ⟨pb, 0, none⟩ (.slice (some ⟨g', 0, none⟩) (j + 1) cap')).heap.size := by rw [size_setCell]; have := HG5.out.size; simp at this; omega
      have HP := Lib.hid hp
      have HSZ := Lib.hid hsz
      have HWS := Lib.hid (rsetT_any hp.whl (by show sj.W.Good; rw [HOK.out.W]; exact newW_good (by omega)) (by show sj.W.now ≤ _; rw [HOK.out.W]; show (0 : Int) ≤ _; omega) hsz j 1)
      clear hp hsz
      refine HWS.out.mono ?_
      rintro e w6 hpost
      obtain ⟨rfl, ⟨sv6, hn6⟩, hk6⟩ := NewAt.wheel HP.out HSZ.out hpost
      have HN6 := Lib.hid hn6
      have HK6 := Lib.hid hk6
      clear hn6 hk6 hpost
      go_wp2_with fail
      go_roundw
      case rel =>
        refine ⟨j + 1, sv6, _, _, by omega, by go_num, HN6, Lib.hid ?_, Lib.hid ?_⟩
        · refine ⟨HOK.out.re, HOK.out.mo, ?_, ?_, ?_⟩
          · show (sj.W.setF j 1).1 = _
            rw [HOK.out.W, newW_step (by omega)]
          · show (sj.bs ++ [_]).length = _
            rw [List.length_append, HOK.out.len]; rfl
          · intro q hq
            rcases List.mem_append.1 hq with hq | hq
            · exact HOK.out.bs q hq
            · rw [List.mem_singleton] at hq
              exact ⟨mb, hq⟩
        · rw [HBB.out]
          have hbj : Below w1.heap.size w1 wr := by rw [← HBB.out]; exact HBJ.out
          have h4 := below_then hbj HB4.out
          have hbs := h4.size
          have h5 : Below w1.heap.size w1 w5 := Below.grown (below_al h4 _) HG5.out (by simp; omega) (fun x hx => by rw [← HBB.out]; exact (World.ownsRow.lt HROW.out x hx).1)
          have h6 : Below w1.heap.size w1 (w5.setCell ⟨pb, 0, none⟩ (.slice (some ⟨g', 0, none⟩) (j + 1) cap')) := Below.setCell h5 (by rw [← HBB.out]; exact HNJ.out.lo pb (.inl own_pb)) _
          exact h6.trans (HK6.out.below (by rw [← HBB.out]; exact HSZ.out) (fun x hx => by rw [← HBB.out]; exact HP.out.lo x (.inr hx)))
      case measure => simp [intOf]; omega
    · obtain rfl : j = n := by omega
      go_wp2_with fail
      go_ret2
      exact ⟨B, pb, b, _, svj, vj, sj, rfl, HNJ.out.done, HNJ.out.lo, HOK.out, (HB1.out.trans ((HBJ.out).mono (by rw [HBB.out]; exact HB1.out.size))), Nat.le_of_lt (Nat.lt_of_le_of_lt (Nat.le_refl _) HXL.out), HSB.out⟩
end Go.Proofs.Ytilkfcpdeeaifaa.Rf
