/- The walks of the reference wheel's New, Set and Tick. -/
import Derived.Test.YtilkfcpdeeaifaaRefWhl
import Derived.Test.YtilkfcpdeeaifaaWhlTickPure
import Derived.Test.YtilkfcpdeeaifaaPush
set_option linter.unusedVariables false
set_option linter.unusedSimpArgs false
set_option linter.unusedSectionVars false
namespace Go.Proofs.Ytilkfcpdeeaifaa
open Go.RowKit Go.Sort
set_option maxHeartbeats 1000000 in
set_option maxRecDepth 100000 in
theorem rnewT_any (w : World) : Calls Try.prog 34 #[] w fun e w' => ∃ xb, e = .returned (.pointer (some ⟨xb, 0, none⟩)) ∧ RefAt w.heap.size w' xb (.slice none 0 0) PW.new ∧ w.heap.size ≤ xb ∧ Below w.heap.size w w' := by
  go_enter Try.func34, Try.ntmps34
  go_wp2_with fail
  go_ret
  exact ⟨_, rfl, ⟨BlockIs.new w [.int .i64 0, .slice none 0 0] _, World.ownsRow_nil _ _ _ _, fun e => by cases e⟩, Nat.le_refl _, below_al (Below.refl _ _) _⟩
theorem rdrop_state (s : PW) (i : Int) : (s.cancelF i).1 = s.drop i := by
  unfold PW.cancelF
  split
  · rfl
  · rename_i h
    have : tfind i s.ts = none := by cases hf : tfind i s.ts with | none => rfl | some t => rw [hf] at h; simp at h
    unfold PW.drop
    rw [tdel_none this]
theorem tidx_isSome {i : Int} {l : List Tm} : (tfind i l).isSome = (tidx i l).isSome := by
  cases h : tidx i l with
  | none => rw [tidx_none h]; rfl
  | some k => obtain ⟨_, h1, _, _⟩ := tidx_some h; rw [h1]; rfl
theorem rset_fin {base xb g' cap' : Nat} {i a : Int} {v v2 : Value} {s : PW} {w w1 w2 w5 : World} {ob : Obj} {ts : List Tm} (hb : Below w.heap.size w w1) (hx2 : RefAt base w2 xb v2 (s.drop i)) (hf2 : ∀ k, rfoot xb v2 k → rfoot xb v k ∨ w1.heap.size ≤ k) (hk2 : Keeps (rfoot xb v) w1 w2)
    (hts : (s.drop i).ts = ts)
    (ho5 : w5.ownsRow base 99 2 (.slice (some ⟨g', 0, none⟩) (ts.length + 1) cap') (ts.length + 1) (rflat ts ++ [.int .i64 i, .int .i64 (s.now + a)]))
    (hg5 : (w2.drew.alloc ob).grownBy w5 v2.ownBlock) (hn5 : v2.ownBlock = some g' ∨ (w2.drew.alloc ob).heap.size ≤ g')
    (hx5 : BlockIs w5 xb [.int .i64 s.now, v2]) :
    RPost base xb v { now := s.now, set := s.set + 1, ts := tdel i s.ts ++ [⟨i, s.now + a, s.set⟩] } (.int .i64 0) w (.returned (.int .i64 0)) (w5.setCell ⟨xb, 1, none⟩ (.slice (some ⟨g', 0, none⟩) (ts.length + 1) cap')) := by
  subst hts
  have hs1 := hb.size
  have hs2 := hk2.size
  have hxl := hx2.blk.lt
  have hsa : w2.heap.size ≤ (w2.drew.alloc ob).heap.size := by simp
  have hgx : g' ≠ xb := by
    rcases hn5 with e | e
    · rintro rfl; exact hx2.nb e
    · omega
  refine ⟨_, rfl, ⟨hx5.set 1 _, ?_, fun e => hgx (by cases e; rfl)⟩, ?_, ?_⟩
  · have h1 : (tdel i s.ts ++ [⟨i, s.now + a, s.set⟩] : List Tm).length = (s.drop i).ts.length + 1 := by rw [List.length_append]; rfl
    have h2 : rflat (tdel i s.ts ++ [⟨i, s.now + a, s.set⟩]) = rflat (s.drop i).ts ++ [.int .i64 i, .int .i64 (s.now + a)] := by rw [rflat_app]; rfl
    show OwnsR base _ _ (tdel i s.ts ++ [⟨i, s.now + a, s.set⟩])
    unfold OwnsR
    rw [h1, h2]
    refine ⟨ho5.1, ?_⟩
    rcases ho5.2 with ⟨e, _⟩ | ⟨g, cap, cur, e, hbb, hgg, rest⟩
    · cases e
    · cases e
      refine .inr ⟨g', cap', cur, rfl, hbb, ?_, rest⟩
      rw [Below.heap_setCell _ _ _ _ (show g' ≠ xb from hgx)]; exact hgg
  · rintro x (rfl | hx)
    · exact .inl (.inl rfl)
    · obtain rfl : g' = x := by cases hx; rfl
      rcases hn5 with e | e
      · rcases hf2 g' (.inr e) with h1 | h1
        · exact .inl h1
        · exact .inr (by omega)
      · exact .inr (by omega)
  · have k1 : Keeps (rfoot xb v) w w1 := Keeps.of_below hb
    have k2 := k1.trans hk2
    have k3 : Keeps (rfoot xb v) w (w2.drew.alloc ob) := k2.drew.alloc ob
    have k5 : Keeps (rfoot xb v) w w5 := k3.grown hg5 (fun x e => (hf2 x (.inr e)).imp id (fun h => by omega))
    exact k5.setCell (.inl (.inl rfl)) _
set_option maxHeartbeats 2000000 in
set_option maxRecDepth 100000 in
theorem rsetT_any {base : Nat} {w : World} {xb : Nat} {v : Value} {s : PW} (h : RefAt base w xb v s) (hs : s.Good) (hb : s.now ≤ 4611686018427387904) (hbase : base ≤ w.heap.size) (i a : Int) :
    Calls Try.prog 35 #[.pointer (some ⟨xb, 0, none⟩), .int .i64 i, .int .i64 a] w (RPost base xb v (s.setF i a).1 (.int .i64 (s.setF i a).2) w) := by
  have HFD := Lib.hid (rfindT_any h (by have := hs.len; omega) i)
  have HX := Lib.hid h
  have HS := Lib.hid hs
  have hlen := hs.len
  have hn0 := hs.now
  by_cases h1 : i < 0 ∨ a < 1 ∨ 1073741824 < a
  · have HR : Hid (s.setF i a = (s, 1)) := Lib.hid (by rw [PW.setF, if_pos h1])
    clear h hs HFD
    go_enter Try.func35, Try.ntmps35
    go_wp2_with fail
    all_goals
      go_ret
      rw [HR.out]
      exact rpost_below HX.out (Below.refl _ _) rfl
  · have h2 : ¬ i < 0 := fun e => h1 (.inl e)
    have h3 : ¬ a < 1 := fun e => h1 (.inr (.inl e))
    have h4 : ¬ 1073741824 < a := fun e => h1 (.inr (.inr e))
    obtain ⟨p, cap, hv, _⟩ := h.row.form
    subst hv
    by_cases hfull : (tfind i s.ts).isSome = false ∧ 1024 ≤ s.ts.length
    · have HR : Hid (s.setF i a = (s, 9)) := Lib.hid (by rw [PW.setF, if_neg h1, if_pos hfull])
      obtain ⟨hf1, hf2⟩ := hfull
      rw [tidx_isSome] at hf1
      have hf3 : tidx i s.ts = none := by cases hq : tidx i s.ts with | none => rfl | some k => rw [hq] at hf1; cases hf1
      rw [hf3] at HFD
      have hf2i : (1024 : Int) ≤ s.ts.length := by omega
      clear h hs hf1 hf3 h1
      go_enter Try.func35, Try.ntmps35
      go_wp2_with fail
      refine HFD.out.mono ?_
      unfold idxI
      rintro e w1 ⟨rfl, hb1⟩
      have HXW := Lib.hid (HX.out.below hb1)
      have e1 := HXW.out.blk.cell 1
      simp only [List.getElem?_cons_zero, List.getElem?_cons_succ] at e1
      have HB := Lib.hid hb1
      clear hb1
      go_wp2_with fail
      go_ret
      rw [HR.out]
      exact rpost_below HX.out HB.out rfl
    · have HR : Hid (s.setF i a = ({ now := s.now, set := s.set + 1, ts := tdel i s.ts ++ [⟨i, s.now + a, s.set⟩] }, 0)) := Lib.hid (by rw [PW.setF, if_neg h1, if_neg hfull])
      have hcond : (∃ k, tidx i s.ts = some k) ∨ (tidx i s.ts = none ∧ (s.ts.length : Int) < 1024) := by
        cases hq : tidx i s.ts with
        | some k => exact .inl ⟨k, rfl⟩
        | none => right; refine ⟨rfl, ?_⟩; have : ¬ 1024 ≤ s.ts.length := fun e => hfull ⟨by rw [tidx_isSome, hq]; rfl, e⟩; omega
      have HDG := Lib.hid (PW.drop_good hs i)
      clear h hs h1 hfull
      obtain ⟨i0, hi, hz0, hz1, hz2⟩ := info_parts iref
      go_enter Try.func35, Try.ntmps35
      go_wp2_with fail
      refine HFD.out.mono ?_
      rintro e w1 ⟨rfl, hb1⟩
      have HXW := Lib.hid (HX.out.below hb1)
      have e1 := HXW.out.blk.cell 1
      simp only [List.getElem?_cons_zero, List.getElem?_cons_succ] at e1
      have HB := Lib.hid hb1
      have HCA := Lib.hid (rcancelT_any HXW.out HS.out (Nat.le_trans hbase hb1.size) i)
      rw [rdrop_state] at HCA
      clear hb1
      rcases hcond with ⟨k, hk⟩ | ⟨hk, hlt⟩
      all_goals
        rw [hk]
        unfold idxI
        go_wp2_with fail
        refine HCA.out.mono ?_
        rintro e w2 ⟨v2, rfl, hx2, hf2, hk2⟩
        obtain ⟨p2, c2, hv2, _⟩ := hx2.row.form
        subst hv2
        have HX2 := Lib.hid hx2
        have HF2 := Lib.hid hf2
        have HK2 := Lib.hid hk2
        have d0 : w2.cell? ⟨xb, 0, none⟩ = some (.int .i64 s.now) := hx2.blk.cell 0
        have d1 := hx2.blk.cell 1
        have df := hx2.blk.free
        simp only [List.getElem?_cons_zero, List.getElem?_cons_succ] at d1
        have hxl := hx2.blk.lt
        have hdl : (s.drop i).ts.length ≤ 1024 := HDG.out.len
        have hbs : base ≤ w2.heap.size := by have := HB.out.size; have := hk2.size; omega
        clear hx2 hf2 hk2 e1
        go_wp2_with fail
        have HROW := Lib.hid HX2.out.row
        have hwr : IntKind.i64.wrap (s.now + a) = s.now + a := by simp [IntKind.wrap, IntKind.signed, IntKind.bits]; omega
        generalize hts : (s.drop i).ts = ts at *
        have HTS := Lib.hid hts
        clear hts
        go_region_law (refine step_push rfl (.tmp 36) (.tmp 45) 95 rfl base 99 i0 (.agg #[.int .i64 0, .int .i64 0]) 2 16 Try.underlying95 hi hz0 hz1 hz2 rfl (by decide) (.slice p2 ts.length c2) ts.length (rflat ts) rfl (HROW.out.drew.alloc _) ⟨w2.heap.size, 0, none⟩ 1 [.int .i64 i, .int .i64 (s.now + a)] rfl rfl (fun j u hj => by match j, hj with | 0, hj => (simp at hj; subst hj; simp [Addr.add]) | 1, hj => (simp at hj; subst hj; simp [Addr.add, hwr]) | j + 2, hj => (simp at hj)) (fun u hu => by simp at hu; rcases hu with rfl | rfl <;> rfl) (by unfold maxLen; omega) (by omega) (by simp; omega) ?_; intro g' cap' w5 ho5 hg5 hn5; have BX5 := Lib.hid ((HX2.out.blk.drew.alloc _).of_same (hg5.block xb (by simp; omega) (fun e => HX2.out.nb e.symm))); have y5 := BX5.out.cell 1; have yf := BX5.out.free; simp only [List.getElem?_cons_zero, List.getElem?_cons_succ] at y5; have HO5 := Lib.hid ho5; have HG5 := Lib.hid hg5; have HN5 := Lib.hid hn5; clear ho5 hg5 hn5)
        all_goals
          go_wp2_with fail
          go_ret
          rw [HR.out]
          exact rset_fin HB.out HX2.out HF2.out HK2.out HTS.out HO5.out HG5.out HN5.out BX5.out
end Go.Proofs.Ytilkfcpdeeaifaa
