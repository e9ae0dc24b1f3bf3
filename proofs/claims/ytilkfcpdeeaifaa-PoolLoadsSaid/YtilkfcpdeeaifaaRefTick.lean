/- The walk of the reference wheel's Tick. -/
import Derived.Test.YtilkfcpdeeaifaaRefWhl2
import Derived.Test.YtilkfcpdeeaifaaWhlTick
set_option linter.unusedVariables false
set_option linter.unusedSimpArgs false
set_option linter.unusedSectionVars false
namespace Go.Proofs.Ytilkfcpdeeaifaa
open Go.RowKit Go.Sort
def RTickPost (base xb : Nat) (v : Value) (s : PW) (w : World) (e : Ending) (w' : World) : Prop :=
  ∃ v' d, e = .returned d ∧ RefAt base w' xb v' s.tickF.1 ∧ (∀ k, rfoot xb v' k → rfoot xb v k ∨ w.heap.size ≤ k) ∧ Keeps (rfoot xb v) w w' ∧ Owns w.heap.size w' d s.tickF.2 ∧ ∀ g, d.ownBlock = some g → ¬ rfoot xb v' g
theorem heap_al_old {w : World} {o : Obj} {x : Nat} (h : x < w.heap.size) : ((w.alloc o).drew).heap[x]? = w.heap[x]? := Below.heap_alloc _ _ _ h
theorem bl_of {w w' : World} {b : Nat} {cs : List Value} (h : BlockIs w b cs) (k : RowKit.Below w.heap.size w w') : BlockIs w' b cs := h.keeps (Keeps.of_below (S := fun _ => False) k) (fun h => h)
set_option maxHeartbeats 2000000 in
set_option maxRecDepth 100000 in
theorem rtickT_any {base : Nat} {w : World} {xb : Nat} {v : Value} {s : PW} (h : RefAt base w xb v s) (hs : s.Good) (hb : s.now ≤ 4611686018427387904) (hbase : base ≤ w.heap.size) :
    Calls Try.prog 58 #[.pointer (some ⟨xb, 0, none⟩)] w (RTickPost base xb v s w) := by
  obtain ⟨p, cap, hv, hcap, hcm, hp⟩ := h.row.form
  subst hv
  have HX := Lib.hid h
  have HP := Lib.hid hp
  have hlen := hs.len
  have hn0 := hs.now
  have c0 := h.blk.cell 0
  have cf := h.blk.free
  simp only [List.getElem?_cons_zero] at c0
  have hxl := h.blk.lt
  have BX1 := Lib.hid (h.blk.set 0 (.int .i64 (s.now + 1)))
  have HSZ1 : Hid ((w.setCell ⟨xb, 0, none⟩ (.int .i64 (s.now + 1))).heap.size = w.heap.size) := Lib.hid (size_setCell _ _ _)
  have HK1 := Lib.hid ((Keeps.refl (fun x => x = xb) w).set1 rfl 0 (.int .i64 (s.now + 1)))
  have HROW1 : Hid (OwnsR base (w.setCell ⟨xb, 0, none⟩ (.int .i64 (s.now + 1))) (.slice p s.ts.length cap) s.ts) := Lib.hid (h.row.of_same (fun g hg => Below.heap_setCell _ _ _ _ (fun e => h.nb (by have e2 : g = xb := e; rw [← e2]; exact hg))))
  clear h hp hs
  go_enter Try.func58, Try.ntmps58
  go_wp2_with fail
  generalize hw1 : w.setCell ⟨xb, 0, none⟩ (.int .i64 (s.now + 1)) = w1 at *
  clear hw1
  obtain ⟨i0, hi, hz0, hz1, hz2⟩ := info_parts iref
  obtain ⟨i1, hj1, hy0, hy1, hy2⟩ := info_parts iint2
  go_loopw [3, 4, 5] (fun d r i wr => ∃ (dv rv : Value) (j : Nat), dv = d ∧ rv = r ∧ j ≤ s.ts.length ∧ i = .int .i64 j ∧ Hid (Owns w.heap.size wr dv (((s.ts.take j).filter (dueB (s.now + 1))).map Tm.id)) ∧ Hid (OwnsR w.heap.size wr rv ((s.ts.take j).filter (fun t => !dueB (s.now + 1) t))) ∧ Hid (∀ g, dv.ownBlock = some g → rv.ownBlock ≠ some g) ∧ Hid (RowKit.Below w1.heap.size w1 wr)) (fun _ _ i _ => s.ts.length - (intOf i).toNat)
  case atStart => exact ⟨_, _, 0, rfl, rfl, by omega, rfl, Lib.hid (World.ownsRow_nil _ _ _ _), Lib.hid (World.ownsRow_nil _ _ _ _), Lib.hid (fun g hg => by cases hg), Lib.hid (RowKit.Below.refl _ _)⟩
  case round =>
    obtain ⟨dv, rv, j, rfl, rfl, hj, rfl, HD, HRV, HNE, HB⟩ := hrel
    have hBX := bl_of BX1.out HB.out
    have e0 := hBX.cell 0
    have e1 := hBX.cell 1
    simp only [List.set_cons_zero, List.getElem?_cons_zero, List.getElem?_cons_succ] at e0 e1
    have hblr := hBX.lt
    have hbs : w.heap.size ≤ wr.heap.size := by have := HB.out.size; have := HSZ1.out; omega
    by_cases hlt : j < s.ts.length
    · obtain ⟨g, hg, hgl, hcells⟩ : ∃ g, p = some ⟨g, 0, none⟩ ∧ g < w1.heap.size ∧ ∀ j u, (rflat s.ts)[j]? = some u → w1.cell? ⟨g, j, none⟩ = some u := by
        obtain ⟨p', cap', e, _, _, hq⟩ := HROW1.out.form
        cases e
        rcases hq with ⟨h0, _⟩ | hq
        · rw [h0] at hlt; exact absurd hlt (Nat.not_lt_zero _)
        · exact hq
      subst hg
      have t0 := (HB.out.cell (p := ⟨g, j * 2, none⟩) hgl).trans (hcells (j * 2) (.int .i64 s.ts[j].id) (by
        have := rflat_get s.ts j 0 (by omega)
        rw [Nat.add_zero] at this
        rw [this, List.getElem?_eq_getElem hlt]; rfl))
      have t1 := (HB.out.cell (p := ⟨g, j * 2 + 1, none⟩) hgl).trans (hcells (j * 2 + 1) (.int .i64 s.ts[j].due) (by rw [rflat_get s.ts j 1 (by omega), List.getElem?_eq_getElem hlt]; rfl))
      have HT1 : Hid ((s.ts.take (j + 1)).filter (dueB (s.now + 1)) = (s.ts.take j).filter (dueB (s.now + 1)) ++ (if dueB (s.now + 1) s.ts[j] = true then [s.ts[j]] else [])) := Lib.hid (due_take hlt)
      have HT2 : Hid ((s.ts.take (j + 1)).filter (fun t => !dueB (s.now + 1) t) = (s.ts.take j).filter (fun t => !dueB (s.now + 1) t) ++ (if dueB (s.now + 1) s.ts[j] = true then [] else [s.ts[j]])) := Lib.hid (by
        rw [List.take_succ_eq_append_getElem hlt, List.filter_append]
        congr 1
        cases hq : dueB (s.now + 1) s.ts[j] with
        | true => rw [List.filter_cons_of_neg (by simp [hq]), if_pos rfl]; rfl
        | false => rw [List.filter_cons_of_pos (by simp [hq]), if_neg (by decide)]; rfl)
      have hl1 : (((s.ts.take j).filter (dueB (s.now + 1))).map Tm.id).length ≤ 1024 := by rw [List.length_map]; exact Nat.le_trans (List.length_filter_le _ _) (by rw [List.length_take]; omega)
      have hl2 : ((s.ts.take j).filter (fun t => !dueB (s.now + 1) t)).length ≤ 1024 := Nat.le_trans (List.length_filter_le _ _) (by rw [List.length_take]; omega)
      clear hcells c0 cf hxl
      generalize hD0 : (((s.ts.take j).filter (dueB (s.now + 1))).map Tm.id) = D0 at *
      generalize hR0 : ((s.ts.take j).filter (fun t => !dueB (s.now + 1) t)) = R0 at *
      have HD0 := Lib.hid hD0
      clear hD0 hR0
      by_cases hd : s.ts[j].due = s.now + 1
      · have hdb : (s.ts[j].due == s.now + 1) = true := by simp [hd]
        have HDB : Hid (dueB (s.now + 1) s.ts[j] = true) := Lib.hid (by simp [dueB, hd])
        rw [HDB.out, if_pos rfl] at HT1 HT2
        rw [List.append_nil] at HT2
        go_wp2_with fail
        go_region
        go_wp2_with (at_builtin; refine wpList_push rfl _ _ 28 rfl w.heap.size 3 i1 (.int .i64 0) 1 8 Try.underlying28 hj1 hy0 hy1 hy2 rfl (by decide) _ D0.length (D0.map (Value.int .i64)) rfl (by first | exact (HD.out.alloc _).drew | exact (HD.out.drew.alloc _)) ⟨wr.heap.size, 0, none⟩ 1 [.int .i64 s.ts[j].id] rfl rfl ?c1 ?c2 (by unfold maxLen; omega) (by omega) (by simp; omega) ?_; (case c1 => (intro q u hu; match q, hu with | 0, hu => (simp at hu; subst hu; simp [Addr.add]) | q + 1, hu => (simp at hu))); (case c2 => (intro u hu; simp at hu; subst hu; rfl)); intro g' cap' w5 ho5 hg5 hn5; have HO5 := Lib.hid ho5; have HG5 := Lib.hid hg5; have HN5 := Lib.hid hn5; clear ho5 hg5 hn5)
        go_roundw
        case rel =>
          refine ⟨_, rv, j + 1, rfl, rfl, by omega, by go_num, Lib.hid ?_, Lib.hid ?_, Lib.hid ?_, Lib.hid ?_⟩
          · rw [HT1.out, List.map_append, HD0.out]
            have h5 := HO5.out
            unfold Owns
            rw [List.length_append, List.map_append]
            exact h5
          · rw [HT2.out]
            exact OwnsR.of_same HRV.out (fun x hx => (HG5.out.block x (by have := (World.ownsRow.lt HRV.out x hx).2; simp; omega) (fun e => HNE.out x e.symm hx)).trans (heap_al_old (World.ownsRow.lt HRV.out x hx).2))
          · intro x hx hr
            obtain rfl : g' = x := by cases hx; rfl
            rcases HN5.out with e | e
            · exact HNE.out _ e hr
            · have := (World.ownsRow.lt HRV.out _ hr).2
              simp at e
              omega
          · refine RowKit.Below.grown ((below_al HB.out _).drew) HG5.out (by simp; have := HB.out.size; omega) (fun x hx => ?_)
            have := (World.ownsRow.lt HD.out x hx).1
            have := HSZ1.out
            omega
        case measure => simp [intOf]; omega
      · have hdb : (s.ts[j].due == s.now + 1) = false := by simp [hd]
        have HDB : Hid (dueB (s.now + 1) s.ts[j] = false) := Lib.hid (by simp [dueB, hd])
        rw [HDB.out, if_neg (by decide)] at HT1 HT2
        rw [List.append_nil] at HT1
        go_wp2_with fail
        go_region
        go_wp2_with (at_builtin; refine wpList_push rfl _ _ 95 rfl w.heap.size 99 i0 (.agg #[.int .i64 0, .int .i64 0]) 2 16 Try.underlying95 hi hz0 hz1 hz2 rfl (by decide) _ R0.length (rflat R0) rfl (by first | exact (HRV.out.alloc _).drew | exact (HRV.out.drew.alloc _)) ⟨wr.heap.size, 0, none⟩ 1 (rC s.ts[j]) rfl rfl ?c1 ?c2 (by unfold maxLen; omega) (by omega) (by simp; omega) ?_; (case c1 => (intro q u hu; match q, hu with | 0, hu => (simp [rC] at hu; subst hu; simp [Addr.add]) | 1, hu => (simp [rC] at hu; subst hu; simp [Addr.add]) | q + 2, hu => (simp [rC] at hu))); (case c2 => (intro u hu; simp [rC] at hu; rcases hu with rfl | rfl <;> rfl)); intro g' cap' w5 ho5 hg5 hn5; have HO5 := Lib.hid ho5; have HG5 := Lib.hid hg5; have HN5 := Lib.hid hn5; clear ho5 hg5 hn5)
        go_roundw
        case rel =>
          refine ⟨dv, _, j + 1, rfl, rfl, by omega, by go_num, Lib.hid ?_, Lib.hid ?_, Lib.hid ?_, Lib.hid ?_⟩
          · rw [HT1.out, HD0.out]
            exact Owns.of_same HD.out (fun x hx => (HG5.out.block x (by have := (World.ownsRow.lt HD.out x hx).2; simp; omega) (fun e => HNE.out x hx e.symm)).trans (heap_al_old (World.ownsRow.lt HD.out x hx).2))
          · rw [HT2.out]
            have h5 := HO5.out
            unfold OwnsR
            rw [List.length_append, rflat_app, show rflat [s.ts[j]] = rC s.ts[j] from by simp [rflat]]
            exact h5
          · intro x hx hr
            obtain rfl : g' = x := by cases hr; rfl
            rcases HN5.out with e | e
            · exact HNE.out _ hx e
            · have := (World.ownsRow.lt HD.out _ hx).2
              simp at e
              omega
          · refine RowKit.Below.grown ((below_al HB.out _).drew) HG5.out (by simp; have := HB.out.size; omega) (fun x hx => ?_)
            have := (World.ownsRow.lt HRV.out x hx).1
            have := HSZ1.out
            omega
        case measure => simp [intOf]; omega
    · obtain rfl : j = s.ts.length := by omega
      rw [List.take_length] at HD HRV
      have hef := hBX.free
      have HBX := Lib.hid hBX
      clear hBX
      obtain ⟨p2, c2, hv2⟩ := own_slice HRV.out
      subst hv2
      go_wp2_with fail
      go_ret
      refine ⟨_, dv, rfl, ⟨HBX.out.set 1 _, ?_, ?_⟩, ?_, ?_, ?_, ?_⟩
      · show OwnsR base _ _ (s.ts.filter (fun t => !dueB (s.now + 1) t))
        refine OwnsR.of_same (w := wr) ⟨HRV.out.1, ?_⟩ (fun x hx => Below.heap_setCell _ _ _ _ (fun e => by have e2 : x = xb := e; have := (World.ownsRow.lt HRV.out x hx).1; have := HX.out.blk.lt; omega))
        rcases HRV.out.2 with hn | ⟨g, cap', cur, e, hbb, rest⟩
        · exact .inl hn
        · exact .inr ⟨g, cap', cur, e, Nat.le_trans hbase hbb, rest⟩
      · intro e
        have := (World.ownsRow.lt HRV.out xb e).1
        have := HX.out.blk.lt
        omega
      · rintro x (rfl | hx)
        · exact .inl (.inl rfl)
        · exact .inr (World.ownsRow.lt HRV.out x hx).1
      · have k1 : Keeps (rfoot xb (.slice p s.ts.length cap)) w w1 := HK1.out.mono (fun x e => .inl (.inl e))
        have k2 : Keeps (rfoot xb (.slice p s.ts.length cap)) w1 wr := Keeps.of_below HB.out
        exact (k1.trans k2).setCell (.inl (.inl rfl)) _
      · exact Owns.of_same HD.out (fun x hx => Below.heap_setCell _ _ _ _ (fun e => by have e2 : x = xb := e; have := (World.ownsRow.lt HD.out x hx).1; have := HX.out.blk.lt; omega))
      · rintro x hx (e | e)
        · have := (World.ownsRow.lt HD.out x hx).1
          have := HX.out.blk.lt
          omega
        · exact HNE.out x hx e
end Go.Proofs.Ytilkfcpdeeaifaa
