/- The walk of the method by which a stream steps. -/
import Derived.Test.YtfhcafpocmapkaaStrNew
import Derived.Deep.DeepCutAuto
set_option linter.unusedVariables false
set_option linter.unusedSimpArgs false
set_option linter.unusedSectionVars false
namespace Go.Proofs.Ytfhcafpocmapkaa
open Go.RowKit

theorem w_drewN {S : Nat → Prop} {a w : World} (h : Keeps S a w) (n : Nat) : Keeps S a (w.drewN n) := ⟨h.os, h.tape, h.output, h.size, h.block⟩
theorem adel_aput (k v : Int) : ∀ es : List (Int × Int), adel k (aput k v es) = adel k es
  | [] => by simp [aput, adel]
  | p :: t => by
    by_cases h : p.1 = k
    · simp [aput, adel, h]
    · simp [aput, adel, h, adel_aput k v t]

/-- What Do makes of the streams, and tells. -/
def DoPost (b m : Nat) (s : PS) (id what : Int) (w : World) (e : Ending) (w' : World) : Prop :=
  e = .returned (.tuple #[.int .i64 (s.do id what).2.1, (s.do id what).2.2.1.val, .int .i64 (s.do id what).2.2.2]) ∧ StrAt w' b m (s.do id what).1 ∧ Keeps (fun k => k = b ∨ k = m) w w'

set_option maxHeartbeats 8000000 in
set_option maxRecDepth 100000 in
theorem do_any (b m : Nat) (s : PS) (id what : Int) (w : World) (h : StrAt w b m s) (hn : s.next < 140737488355328) :
    Calls Try.prog 20 #[.pointer (some ⟨b, 0, none⟩), .int .i64 id, .int .i64 what] w (DoPost b m s id what w) := by
  have hbl := h.1.lt
  have hml := h.2.1.lt
  have H := Lib.hid h
  clear h
  cases hnum : numberB id with
  | false =>
    have hfin := Lib.hid (show s.do id what = (s, 0, noFault, 1) by rw [PS.do, if_pos hnum])
    have HN := Lib.hid hnum
    clear hnum
    go_enter Try.func20, Try.ntmps20
    go_wp2_with (first | (go_at_call 14; refine (none_any b m s _ (H.out.alloc _)).mono ?_; rintro e w0 ⟨rfl, rfl⟩) | (go_at_call 16; refine (number_any _ _).mono ?_; rw [HN.out]; rintro e w0 ⟨rfl, rfl⟩))
    refine bodyPost_ret (v := .tuple #[.int .i64 0, .agg #[.bool false, .int .i64 0, .int .i64 0], .int .i64 1]) (by simp [results, Try.results20, go_sem]) rfl ?_
    exact ⟨by rw [hfin.out]; rfl, by rw [hfin.out]; exact H.out.alloc _, (Keeps.refl _ _).alloc _⟩
  | true =>
    have hn0 : ¬ numberB id = false := by rw [hnum]; simp
    have HN := Lib.hid hnum
    clear hnum
    by_cases hd : s.dropped id = true ∧ 0 ≤ what ∧ what ≤ 4
    · have hfin := Lib.hid (show s.do id what = (s, 4, noFault, 0) by rw [PS.do, if_neg hn0, if_pos hd])
      obtain ⟨hd1, hd2, hd3⟩ := hd
      have HD := Lib.hid hd1
      clear hd1
      go_enter Try.func20, Try.ntmps20
      go_wp2_with (first | (go_at_call 14; refine (none_any b m s _ (H.out.alloc _)).mono ?_; rintro e w0 ⟨rfl, rfl⟩) | (go_at_call 16; refine (number_any _ _).mono ?_; rw [HN.out]; rintro e w0 ⟨rfl, rfl⟩) | (go_at_call 27; refine (dropped_any b m s id _ (H.out.alloc _)).mono ?_; rw [HD.out]; rintro e w0 ⟨rfl, rfl⟩))
      refine bodyPost_ret (v := .tuple #[.int .i64 4, .agg #[.bool false, .int .i64 0, .int .i64 0], .int .i64 0]) (by simp [results, Try.results20, go_sem]) rfl ?_
      exact ⟨by rw [hfin.out]; rfl, by rw [hfin.out]; exact H.out.alloc _, (Keeps.refl _ _).alloc _⟩
    · have hrest : s.do id what = (let r := stepF (s.state id) what
          if r.err ≠ 0 then (s, 0, noFault, r.err)
          else if r.kind = 1 then (s, 0, ⟨true, id, r.code⟩, 0)
          else if r.kind = 2 then (s, 0, ⟨true, 0, r.code⟩, 0)
          else if (aget id s.es).isSome = false then (s, r.next, noFault, 0)
          else if r.next ≠ 4 then ({ s with es := aput id r.next s.es }, r.next, noFault, 0)
          else if what = 8 then (({ s with es := adel id s.es } : PS).drop id, r.next, noFault, 0)
          else ({ s with es := adel id s.es }, r.next, noFault, 0)) := by rw [PS.do, if_neg hn0, if_neg hd]
      have hd' : s.dropped id = false ∨ what < 0 ∨ 4 < what := by
        cases hdd : s.dropped id with
        | false => exact .inl rfl
        | true => right; rcases Classical.em (0 ≤ what ∧ what ≤ 4) with h | h; · exact absurd ⟨hdd, h⟩ hd
                  · omega
      generalize hr : stepF (s.state id) what = r at hrest
      obtain ⟨nx, kd, cd, er⟩ := r
      have HR := Lib.hid hr
      simp only [] at hrest
      clear hd hr
      go_enter Try.func20, Try.ntmps20
      go_upto_region 5 with (first | (go_at_call 14; refine (none_any b m s _ (H.out.alloc _)).mono ?_; rintro e w0 ⟨rfl, rfl⟩) | (go_at_call 16; refine (number_any _ _).mono ?_; rw [HN.out]; rintro e w0 ⟨rfl, rfl⟩))
      go_cut [24] (fun v24 wx => v24 = .bool false ∧ wx = w.alloc (.cells #[.bool false, .int .i64 0, .int .i64 0] 53))
      case first =>
        cases hdd : s.dropped id with
        | false =>
          have HD := Lib.hid hdd
          clear hdd hd'
          go_wp2_with (go_at_call 27; refine (dropped_any b m s id _ (H.out.alloc _)).mono ?_; rw [HD.out]; rintro e w0 ⟨rfl, rfl⟩)
          go_meet
          exact ⟨rfl, rfl⟩
        | true =>
          have HD := Lib.hid hdd
          rw [hdd] at hd'
          have hd2 : what < 0 ∨ 4 < what := by rcases hd' with h | h | h; · cases h
                                               · exact .inl h
                                               · exact .inr h
          clear hdd hd'
          go_wp2_with (go_at_call 27; refine (dropped_any b m s id _ (H.out.alloc _)).mono ?_; rw [HD.out]; rintro e w0 ⟨rfl, rfl⟩)
          all_goals (go_meet; exact ⟨by first | rfl | (simp; omega), rfl⟩)
      case rest =>
        obtain ⟨rfl, rfl⟩ := hcut
        clear hd'
        go_wp2_with fail
        refine (state_any b m s id _ (H.out.alloc _)).mono ?_
        rintro e w0 ⟨rfl, nd, rfl⟩
        go_wp2_with fail
        refine (step_any _ _ _).mono ?_
        rw [HR.out]
        rintro e w1 ⟨rfl, hb⟩
        have HS := Lib.hid (StrAt.below ((H.out.alloc _).drewN nd) hb)
        have BX : Hid (BlockIs w1 w.heap.size [.bool false, .int .i64 0, .int .i64 0]) := Lib.hid (BlockIs.keeps (w := (w.alloc (.cells #[.bool false, .int .i64 0, .int .i64 0] 53)).drewN nd) (S := fun _ => False) (BlockIs.of_same (BlockIs.new w [.bool false, .int .i64 0, .int .i64 0] 53) rfl) (Keeps.of_below hb) (fun h => h))
        have KP : Hid (Keeps (fun k => k = b ∨ k = m) w w1) := Lib.hid (Keeps.trans (b := (w.alloc (.cells #[.bool false, .int .i64 0, .int .i64 0] 53)).drewN nd) (w_drewN ((Keeps.refl (fun k => k = b ∨ k = m) w).alloc _) nd) (Keeps.of_below hb))
        have x0 := BX.out.cell 0
        have x1 := BX.out.cell 1
        have x2 := BX.out.cell 2
        have xf := BX.out.free
        have c6 := HS.out.c6
        have hlk := HS.out.2.1.look (P := Try.prog) (t := 43) Try.underlying43 Try.underlying3 (z := .int .i64 0) (by kernel_rfl) id true
        rw [mget_enc] at hlk
        simp only [List.getElem?_cons_zero, List.getElem?_cons_succ] at x0 x1 x2
        clear hb
        unfold StepR.val
        simp only []
        by_cases he : er = 0
        · by_cases h1 : kd = 1
          · have hfin := Lib.hid (show s.do id what = (s, 0, ⟨true, id, cd⟩, 0) by rw [hrest, if_neg (by simp [he]), if_pos h1])
            have be : (er != 0) = false := by simp [he]
            have bk : (kd == 1) = true := by simp [h1]
            clear he h1 hrest
            go_wp2_with fail
            refine bodyPost_ret (v := .tuple #[.int .i64 0, .agg #[.bool true, .int .i64 id, .int .i64 cd], .int .i64 0]) (by simp [results, Try.results20, go_sem, x0, x1, x2]) rfl ?_
            exact ⟨by rw [hfin.out]; rfl, by rw [hfin.out]; repeat (first | exact HS.out | (refine StrAt.farBox ?_ hbl hml _ _)), by repeat (first | exact KP.out | (refine Keeps.setCell ?_ (.inr (Nat.le_refl _)) _))⟩
          · by_cases h2 : kd = 2
            · have hfin := Lib.hid (show s.do id what = (s, 0, ⟨true, 0, cd⟩, 0) by rw [hrest, if_neg (by simp [he]), if_neg h1, if_pos h2])
              have be : (er != 0) = false := by simp [he]
              have bk : (kd == 1) = false := by simp [h1]
              have bk2 : (kd == 2) = true := by simp [h2]
              clear he h1 h2 hrest
              go_wp2_with fail
              refine bodyPost_ret (v := .tuple #[.int .i64 0, .agg #[.bool true, .int .i64 0, .int .i64 cd], .int .i64 0]) (by simp [results, Try.results20, go_sem, x0, x1, x2]) rfl ?_
              exact ⟨by rw [hfin.out]; rfl, by rw [hfin.out]; repeat (first | exact HS.out | (refine StrAt.farBox ?_ hbl hml _ _)), by repeat (first | exact KP.out | (refine Keeps.setCell ?_ (.inr (Nat.le_refl _)) _))⟩
            · have be : (er != 0) = false := by simp [he]
              have bk : (kd == 1) = false := by simp [h1]
              have bk2 : (kd == 2) = false := by simp [h2]
              cases hg : aget id s.es with
              | none =>
                have hfin := Lib.hid (show s.do id what = (s, nx, noFault, 0) by rw [hrest, if_neg (by simp [he]), if_neg h1, if_neg h2, if_pos (by rw [hg]; rfl)])
                rw [hg] at hlk
                simp only [Option.map_none, Option.getD_none, Option.isSome_none, if_true] at hlk
                clear he h1 h2 hrest hg
                go_wp2_with fail
                refine bodyPost_ret (v := .tuple #[.int .i64 nx, .agg #[.bool false, .int .i64 0, .int .i64 0], .int .i64 0]) (by simp [results, Try.results20, go_sem, x0, x1, x2]) rfl ?_
                exact ⟨by rw [hfin.out]; rfl, by rw [hfin.out]; repeat (first | exact HS.out | (refine StrAt.farBox ?_ hbl hml _ _)), by repeat (first | exact KP.out | (refine Keeps.setCell ?_ (.inr (Nat.le_refl _)) _))⟩
              | some st =>
                rw [hg] at hlk
                simp only [Option.map_some, Option.getD_some, Option.isSome_some, if_true] at hlk
                have hgs : ¬ (aget id s.es).isSome = false := by rw [hg]; simp
                by_cases h4 : nx = 4
                · have b4 : (nx == 4) = true := by simp [h4]
                  by_cases h8 : what = 8
                  · have hfin := Lib.hid (show s.do id what = (({ s with es := adel id s.es } : PS).drop id, nx, noFault, 0) by rw [hrest, if_neg (by simp [he]), if_neg h1, if_neg h2, if_neg hgs, if_neg (by simp [h4]), if_pos h8])
                    have b8 : (what == 8) = true := by simp [h8]
                    clear he h1 h2 hrest hg hgs h4 h8
                    go_wp2_with (first | (at_mapUpdate; refine wpList_mapStore rfl _ _ _ _ rfl _ _ Try.underlying43 Try.underlying3 m _ _ _ rfl rfl rfl HS.out.2.1 ?_; intro w2 hm2 hk2; have HM := Lib.hid hm2; have HK2 := Lib.hid hk2; have BX2 := Lib.hid (BX.out.keeps hk2 (fun e => HS.out.2.1.not_block BX.out e.symm)); have HS2 := Lib.hid (HS.out.put (es' := aput id nx s.es) (by rw [← mput_enc]; exact hm2) hk2); have y0 := BX2.out.cell 0; have y1 := BX2.out.cell 1; have y2 := BX2.out.cell 2; have yf := BX2.out.free; have e6 := HS2.out.c6; simp only [List.getElem?_cons_zero, List.getElem?_cons_succ] at y0 y1 y2; clear hm2 hk2) | (at_delete; refine wpList_mapDrop rfl _ _ _ _ rfl _ Try.underlying43 Try.underlying3 m _ _ rfl rfl HM.out ?_; intro w3 hm3 hk3; have HM3 := Lib.hid hm3; have HK3 := Lib.hid hk3; have BX3 := Lib.hid (BX2.out.keeps hk3 (fun e => HM.out.not_block BX2.out e.symm)); have z0 := BX3.out.cell 0; have z1 := BX3.out.cell 1; have z2 := BX3.out.cell 2; have zf := BX3.out.free; simp only [List.getElem?_cons_zero, List.getElem?_cons_succ] at z0 z1 z2; have d6 := (BlockIs.keeps (HS2.out.1) hk3 (fun e => HM.out.not_block HS2.out.1 e.symm)).cell 6; clear hm3 hk3))
                    have HS3 := Lib.hid (HS2.out.put (es' := adel id s.es) (by rw [← adel_aput id nx, ← mdel_enc, ← mput_enc]; exact HM3.out) HK3.out)
                    go_wp2_with (go_at_call 33; refine (drop_any b m _ _ _ HS3.out hn).mono ?_; rintro e w4 ⟨rfl, hs4, hk4⟩; have HS4 := Lib.hid hs4; have HK4 := Lib.hid hk4; have BX4 := Lib.hid (BX3.out.keeps hk4 (Nat.ne_of_gt hbl)); have v0 := BX4.out.cell 0; have v1 := BX4.out.cell 1; have v2 := BX4.out.cell 2; have vf := BX4.out.free; simp only [List.getElem?_cons_zero, List.getElem?_cons_succ] at v0 v1 v2; clear hs4 hk4)
                    refine bodyPost_ret (v := .tuple #[.int .i64 nx, .agg #[.bool false, .int .i64 0, .int .i64 0], .int .i64 0]) (by simp [results, Try.results20, go_sem, v0, v1, v2]) rfl ?_
                    exact ⟨by rw [hfin.out]; rfl, by rw [hfin.out]; repeat (first | exact HS4.out | (refine StrAt.farBox ?_ hbl hml _ _)), by repeat (first | exact (((KP.out.then HK2.out (fun k e => .inl (.inr e))).then HK3.out (fun k e => .inl (.inr e))).then HK4.out (fun k e => .inl (.inl e))) | (refine Keeps.setCell ?_ (.inr (Nat.le_refl _)) _))⟩
                  · have hfin := Lib.hid (show s.do id what = ({ s with es := adel id s.es }, nx, noFault, 0) by rw [hrest, if_neg (by simp [he]), if_neg h1, if_neg h2, if_neg hgs, if_neg (by simp [h4]), if_neg h8])
                    have b8 : (what == 8) = false := by simp [h8]
                    clear he h1 h2 hrest hg hgs h4 h8
                    go_wp2_with (first | (at_mapUpdate; refine wpList_mapStore rfl _ _ _ _ rfl _ _ Try.underlying43 Try.underlying3 m _ _ _ rfl rfl rfl HS.out.2.1 ?_; intro w2 hm2 hk2; have HM := Lib.hid hm2; have HK2 := Lib.hid hk2; have BX2 := Lib.hid (BX.out.keeps hk2 (fun e => HS.out.2.1.not_block BX.out e.symm)); have HS2 := Lib.hid (HS.out.put (es' := aput id nx s.es) (by rw [← mput_enc]; exact hm2) hk2); have y0 := BX2.out.cell 0; have y1 := BX2.out.cell 1; have y2 := BX2.out.cell 2; have yf := BX2.out.free; have e6 := HS2.out.c6; simp only [List.getElem?_cons_zero, List.getElem?_cons_succ] at y0 y1 y2; clear hm2 hk2) | (at_delete; refine wpList_mapDrop rfl _ _ _ _ rfl _ Try.underlying43 Try.underlying3 m _ _ rfl rfl HM.out ?_; intro w3 hm3 hk3; have HM3 := Lib.hid hm3; have HK3 := Lib.hid hk3; have BX3 := Lib.hid (BX2.out.keeps hk3 (fun e => HM.out.not_block BX2.out e.symm)); have z0 := BX3.out.cell 0; have z1 := BX3.out.cell 1; have z2 := BX3.out.cell 2; have zf := BX3.out.free; simp only [List.getElem?_cons_zero, List.getElem?_cons_succ] at z0 z1 z2; have d6 := (BlockIs.keeps (HS2.out.1) hk3 (fun e => HM.out.not_block HS2.out.1 e.symm)).cell 6; clear hm3 hk3))
                    have HS3 := Lib.hid (HS2.out.put (es' := adel id s.es) (by rw [← adel_aput id nx, ← mdel_enc, ← mput_enc]; exact HM3.out) HK3.out)
                    refine bodyPost_ret (v := .tuple #[.int .i64 nx, .agg #[.bool false, .int .i64 0, .int .i64 0], .int .i64 0]) (by simp [results, Try.results20, go_sem, z0, z1, z2]) rfl ?_
                    exact ⟨by rw [hfin.out]; rfl, by rw [hfin.out]; repeat (first | exact HS3.out | (refine StrAt.farBox ?_ hbl hml _ _)), by repeat (first | exact ((KP.out.then HK2.out (fun k e => .inl (.inr e))).then HK3.out (fun k e => .inl (.inr e))) | (refine Keeps.setCell ?_ (.inr (Nat.le_refl _)) _))⟩
                · have hfin := Lib.hid (show s.do id what = ({ s with es := aput id nx s.es }, nx, noFault, 0) by rw [hrest, if_neg (by simp [he]), if_neg h1, if_neg h2, if_neg hgs, if_pos h4])
                  have b4 : (nx == 4) = false := by simp [h4]
                  clear he h1 h2 hrest hg hgs h4
                  go_wp2_with (first | (at_mapUpdate; refine wpList_mapStore rfl _ _ _ _ rfl _ _ Try.underlying43 Try.underlying3 m _ _ _ rfl rfl rfl HS.out.2.1 ?_; intro w2 hm2 hk2; have HM := Lib.hid hm2; have HK2 := Lib.hid hk2; have BX2 := Lib.hid (BX.out.keeps hk2 (fun e => HS.out.2.1.not_block BX.out e.symm)); have HS2 := Lib.hid (HS.out.put (es' := aput id nx s.es) (by rw [← mput_enc]; exact hm2) hk2); have y0 := BX2.out.cell 0; have y1 := BX2.out.cell 1; have y2 := BX2.out.cell 2; have yf := BX2.out.free; have e6 := HS2.out.c6; simp only [List.getElem?_cons_zero, List.getElem?_cons_succ] at y0 y1 y2; clear hm2 hk2))
                  refine bodyPost_ret (v := .tuple #[.int .i64 nx, .agg #[.bool false, .int .i64 0, .int .i64 0], .int .i64 0]) (by simp [results, Try.results20, go_sem, y0, y1, y2]) rfl ?_
                  exact ⟨by rw [hfin.out]; rfl, by rw [hfin.out]; repeat (first | exact HS2.out | (refine StrAt.farBox ?_ hbl hml _ _)), by repeat (first | exact (KP.out.then HK2.out (fun k e => .inl (.inr e))) | (refine Keeps.setCell ?_ (.inr (Nat.le_refl _)) _))⟩
        · have hfin := Lib.hid (show s.do id what = (s, 0, noFault, er) by rw [hrest, if_pos he])
          have be : (er != 0) = true := by simpa using he
          clear he hrest
          go_wp2_with fail
          refine bodyPost_ret (v := .tuple #[.int .i64 0, .agg #[.bool false, .int .i64 0, .int .i64 0], .int .i64 er]) (by simp [results, Try.results20, go_sem, x0, x1, x2]) rfl ?_
          exact ⟨by rw [hfin.out]; rfl, by rw [hfin.out]; repeat (first | exact HS.out | (refine StrAt.farBox ?_ hbl hml _ _)), by repeat (first | exact KP.out | (refine Keeps.setCell ?_ (.inr (Nat.le_refl _)) _))⟩
end Go.Proofs.Ytfhcafpocmapkaa
