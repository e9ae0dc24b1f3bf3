/- The walk of the reference streams' Do. -/
import Derived.Test.YtfhcafpocmapkaaRStrDo
set_option linter.unusedVariables false
set_option linter.unusedSimpArgs false
set_option linter.unusedSectionVars false
namespace Go.Proofs.Ytfhcafpocmapkaa
open Go.RowKit
section
variable {base xb : Nat} {w : World} {lv gv : Value} {s : RS}
theorem OwnsL.free {base g n cap : Nat} {w : World} {l : List (Int × Int)} (h : OwnsL base w (.slice (some ⟨g, 0, none⟩) n cap) l) (hl : 0 < l.length) (o : Nat) : w.frozen? ⟨g, o, none⟩ = false := by
  rcases h.2 with ⟨_, h0⟩ | ⟨g', cap', cur, hv, _, hgg, _⟩
  · omega
  · have hgg' : g = g' := by injection hv with e1; injection e1 with e2; injection e2
    subst hgg'
    simp [World.frozen?, hgg]
theorem sown_slice {w : World} {base : Nat} {e : TypeId} {size n : Nat} {v : Value} {xs : List Value} (h : w.ownsRow base e size v n xs) : ∃ p c, v = .slice p n c := by
  rcases h.2 with ⟨rfl, rfl⟩ | ⟨g, cap, cur, rfl, _⟩
  · exact ⟨_, _, rfl⟩
  · exact ⟨_, _, rfl⟩
theorem size_alloc' (w : World) (o : Obj) : (w.alloc o).heap.size = w.heap.size + 1 := by simp
set_option maxHeartbeats 8000000 in
set_option maxRecDepth 100000 in
theorem rdo_any (h : RAt base w xb lv gv s) (hbase : base ≤ w.heap.size) (hn : s.es.length ≤ 4398046511104) (id what : Int) : Calls Try.prog 21 #[.pointer (some ⟨xb, 0, none⟩), .int .i64 id, .int .i64 what] w (RSPost base xb lv gv (s.do id what).1 (.tuple #[.int .i64 (s.do id what).2.1, (s.do id what).2.2.1.val, .int .i64 (s.do id what).2.2.2]) w) := by
  have hbl := h.blk.lt
  have H := Lib.hid h
  have HBASE := Lib.hid hbase
  have HNL := Lib.hid hn
  have HB0 : Hid (Below w.heap.size w (w.alloc (.cells #[.bool false, .int .i64 0, .int .i64 0] 53))) := Lib.hid (below_al (Below.refl _ _) _)
  clear h hbase hn
  by_cases q1 : id < 1
  · have hfin := Lib.hid (show s.do id what = (s, 0, noFault, 1) by rw [RS.do, if_pos (by unfold numberB; rw [decide_eq_false_iff_not]; omega)])
    have d1 : decide (id < 1) = true := decide_eq_true q1
    go_enter Try.func21, Try.ntmps21
    go_wp2_with fail
    refine bodyPost_ret (v := .tuple #[.int .i64 0, .agg #[.bool false, .int .i64 0, .int .i64 0], .int .i64 1]) (by simp [results, Try.results21, go_sem]) rfl ?_
    rw [hfin.out]
    exact rspost_below H.out (by repeat (first | exact HB0.out | refine below_setB ?_ (Nat.le_refl _) _ _))
  · have d1 : decide (id < 1) = false := decide_eq_false q1
    by_cases q2 : 2147483647 < id
    · have hfin := Lib.hid (show s.do id what = (s, 0, noFault, 1) by rw [RS.do, if_pos (by unfold numberB; rw [decide_eq_false_iff_not]; omega)])
      have d2 : decide (2147483647 < id) = true := decide_eq_true q2
      go_enter Try.func21, Try.ntmps21
      go_wp2_with fail
      refine bodyPost_ret (v := .tuple #[.int .i64 0, .agg #[.bool false, .int .i64 0, .int .i64 0], .int .i64 1]) (by simp [results, Try.results21, go_sem]) rfl ?_
      rw [hfin.out]
      exact rspost_below H.out (by repeat (first | exact HB0.out | refine below_setB ?_ (Nat.le_refl _) _ _))
    · have d2 : decide (2147483647 < id) = false := decide_eq_false q2
      have hn0 : ¬ numberB id = false := by unfold numberB; rw [decide_eq_false_iff_not]; omega
      have HX0 : Hid (RAt base (w.alloc (.cells #[.bool false, .int .i64 0, .int .i64 0] 53)) xb lv gv s) := Lib.hid (H.out.below HB0.out)
      have HST := Lib.hid (rstate_any HX0.out (Nat.le_trans HNL.out (by decide)) id)
      by_cases hd : s.dropped id = true ∧ 0 ≤ what ∧ what ≤ 4
      · have hfin := Lib.hid (show s.do id what = (s, 4, noFault, 0) by rw [RS.do, if_neg hn0, if_pos hd])
        obtain ⟨hd1, hd2, hd3⟩ := hd
        have HD := Lib.hid hd1
        have e2 : decide (0 ≤ what) = true := decide_eq_true hd2
        have e3 : decide (what ≤ 4) = true := decide_eq_true hd3
        clear hd1 hn0
        go_enter Try.func21, Try.ntmps21
        go_wp2_with ((go_at_call 26; refine HST.out.mono ?_; rintro e w1 ⟨rfl, hb1⟩; have HB1 := Lib.hid hb1; clear hb1))
        go_at_call 28
        refine (rdropped_any (HX0.out.below HB1.out) id).mono ?_
        rw [HD.out]
        rintro e w2 ⟨rfl, hb2⟩
        have HB2 := Lib.hid (below_then HB1.out hb2)
        have hb9 := hb2.size
        have hb8 := HB1.out.size
        have yl : w.heap.size < w2.heap.size := by (simp at hb8; omega)
        have hbx := BlockIs.keeps (S := fun _ => False) (BlockIs.new w [.bool false, .int .i64 0, .int .i64 0] 53) (Keeps.of_below HB2.out) (fun h => h)
        have yf := hbx.free
        have y0 := hbx.cell 0
        have y1 := hbx.cell 1
        have y2 := hbx.cell 2
        simp only [List.getElem?_cons_zero, List.getElem?_cons_succ] at y0 y1 y2
        clear hb2 hb9 hb8 hbx
        go_wp2_with fail
        refine bodyPost_ret (v := .tuple #[.int .i64 4, .agg #[.bool false, .int .i64 0, .int .i64 0], .int .i64 0]) (by simp [results, Try.results21, go_sem, y0, y1, y2]) rfl ?_
        rw [hfin.out]
        exact rspost_below H.out (by repeat (first | exact below_then HB0.out HB2.out | refine below_setB ?_ (Nat.le_refl _) _ _))
      · have hrest : s.do id what = (let r := stepF (s.state id) what
            if r.err ≠ 0 then (s, 0, noFault, r.err)
            else if r.kind = 1 then (s, 0, ⟨true, id, r.code⟩, 0)
            else if r.kind = 2 then (s, 0, ⟨true, 0, r.code⟩, 0)
            else if (aget id s.es).isSome = false then (s, r.next, noFault, 0)
            else if r.next ≠ 4 then ({ s with es := aput id r.next s.es }, r.next, noFault, 0)
            else if what = 8 then (({ s with es := adel id s.es } : RS).drop id, r.next, noFault, 0)
            else ({ s with es := adel id s.es }, r.next, noFault, 0)) := by rw [RS.do, if_neg hn0, if_neg hd]
        have hd' : s.dropped id = false ∨ what < 0 ∨ 4 < what := by
          cases hdd : s.dropped id with
          | false => exact .inl rfl
          | true => right; rcases Classical.em (0 ≤ what ∧ what ≤ 4) with h | h; · exact absurd ⟨hdd, h⟩ hd
                    · omega
        generalize hr : stepF (s.state id) what = r at hrest
        obtain ⟨nx, kd, cd, er⟩ := r
        have HR := Lib.hid hr
        simp only [] at hrest
        generalize hst : s.state id = st0 at HST HR
        have HREST := Lib.hid hrest
        clear hd hr hn0 hst hrest
        go_enter Try.func21, Try.ntmps21
        go_upto_region 4 with ((go_at_call 26; refine HST.out.mono ?_; rintro e w1 ⟨rfl, hb1⟩; have HB1 := Lib.hid hb1; clear hb1))
        go_cut [36] (fun v36 wx => v36 = .bool false ∧ Below (w.alloc (.cells #[.bool false, .int .i64 0, .int .i64 0] 53)).heap.size (w.alloc (.cells #[.bool false, .int .i64 0, .int .i64 0] 53)) wx)
        case first =>
          cases hdd : s.dropped id with
          | false =>
            have HD := Lib.hid hdd
            clear hdd hd'
            go_wp2_with (go_at_call 28; refine (rdropped_any (HX0.out.below HB1.out) id).mono ?_; rw [HD.out]; rintro e w2 ⟨rfl, hb2⟩; have HB2 := Lib.hid (below_then HB1.out hb2); clear hb2)
            go_meet
            exact ⟨rfl, HB2.out⟩
          | true =>
            have HD := Lib.hid hdd
            rw [hdd] at hd'
            have hd2 : what < 0 ∨ 4 < what := by rcases hd' with h | h | h; · cases h
                                                 · exact .inl h
                                                 · exact .inr h
            clear hdd hd'
            rcases hd2 with g1 | g1
            · have e2 : decide (0 ≤ what) = false := decide_eq_false (by omega)
              go_wp2_with (go_at_call 28; refine (rdropped_any (HX0.out.below HB1.out) id).mono ?_; rw [HD.out]; rintro e w2 ⟨rfl, hb2⟩; have HB2 := Lib.hid (below_then HB1.out hb2); clear hb2)
              all_goals (go_meet; exact ⟨by first | rfl | (simp; omega), HB2.out⟩)
            · have e2 : decide (0 ≤ what) = true := decide_eq_true (by omega)
              have e3 : decide (what ≤ 4) = false := decide_eq_false (by omega)
              go_wp2_with (go_at_call 28; refine (rdropped_any (HX0.out.below HB1.out) id).mono ?_; rw [HD.out]; rintro e w2 ⟨rfl, hb2⟩; have HB2 := Lib.hid (below_then HB1.out hb2); clear hb2)
              all_goals (go_meet; exact ⟨by first | rfl | (simp; omega), HB2.out⟩)
        case rest =>
          obtain ⟨rfl, hb2⟩ := hcut
          have HB2 := Lib.hid hb2
          clear hd' hb2
          go_wp2_with fail
          go_at_call 37
          refine (rstep_any _ _ _).mono ?_
          rw [HR.out]
          rintro e w1 ⟨rfl, hb3⟩
          have HB3 := Lib.hid (below_then HB2.out hb3)
          have hxbx := BlockIs.keeps (S := fun _ => False) (BlockIs.new w [.bool false, .int .i64 0, .int .i64 0] 53) (Keeps.of_below HB3.out) (fun h => h)
          have xl := hxbx.lt
          have xf := hxbx.free
          have x0 := hxbx.cell 0
          have x1 := hxbx.cell 1
          have x2 := hxbx.cell 2
          simp only [List.getElem?_cons_zero, List.getElem?_cons_succ] at x0 x1 x2
          clear hxbx
          have HX3 := Lib.hid (HX0.out.below HB3.out)
          clear hb3
          unfold StepR.val
          simp only []
          by_cases he : er = 0
          · by_cases h1 : kd = 1
            · have hfin := Lib.hid (show s.do id what = (s, 0, ⟨true, id, cd⟩, 0) by rw [HREST.out, if_neg (by simp [he]), if_pos h1])
              have be : (er != 0) = false := by simp [he]
              have bk : (kd == 1) = true := by simp [h1]
              clear he h1
              go_wp2_with fail
              refine bodyPost_ret (v := .tuple #[.int .i64 0, .agg #[.bool true, .int .i64 id, .int .i64 cd], .int .i64 0]) (by simp [results, Try.results21, go_sem, x0, x1, x2]) rfl ?_
              rw [hfin.out]
              exact rspost_below H.out (by repeat (first | exact below_then HB0.out HB3.out | refine below_setB ?_ (Nat.le_refl _) _ _))
            · by_cases h2 : kd = 2
              · have hfin := Lib.hid (show s.do id what = (s, 0, ⟨true, 0, cd⟩, 0) by rw [HREST.out, if_neg (by simp [he]), if_neg h1, if_pos h2])
                have be : (er != 0) = false := by simp [he]
                have bk : (kd == 1) = false := by simp [h1]
                have bk2 : (kd == 2) = true := by simp [h2]
                clear he h1 h2
                go_wp2_with fail
                refine bodyPost_ret (v := .tuple #[.int .i64 0, .agg #[.bool true, .int .i64 0, .int .i64 cd], .int .i64 0]) (by simp [results, Try.results21, go_sem, x0, x1, x2]) rfl ?_
                rw [hfin.out]
                exact rspost_below H.out (by repeat (first | exact below_then HB0.out HB3.out | refine below_setB ?_ (Nat.le_refl _) _ _))
              · have be : (er != 0) = false := by simp [he]
                have bk : (kd == 1) = false := by simp [h1]
                have bk2 : (kd == 2) = false := by simp [h2]
                have HFD := Lib.hid (rofind_any HX3.out (Nat.le_trans HNL.out (by decide)) id)
                cases hg : oidx id s.es with
                | none =>
                  have hfin := Lib.hid (show s.do id what = (s, nx, noFault, 0) by rw [HREST.out, if_neg (by simp [he]), if_neg h1, if_neg h2, if_pos (by rw [oidx_none hg]; rfl)])
                  rw [hg] at HFD
                  clear he h1 h2 hg x0 x1 x2 xf xl
                  go_wp2_with fail
                  go_at_call 38
                  refine HFD.out.mono ?_
                  unfold oidxI
                  rintro e w4 ⟨rfl, hb4⟩
                  have HB4 := Lib.hid (below_then HB3.out hb4)
                  have hybx := BlockIs.keeps (S := fun _ => False) (BlockIs.new w [.bool false, .int .i64 0, .int .i64 0] 53) (Keeps.of_below HB4.out) (fun h => h)
                  have yl := hybx.lt
                  have yf := hybx.free
                  have y0 := hybx.cell 0
                  have y1 := hybx.cell 1
                  have y2 := hybx.cell 2
                  simp only [List.getElem?_cons_zero, List.getElem?_cons_succ] at y0 y1 y2
                  clear hybx
                  clear hb4
                  go_wp2_with fail
                  refine bodyPost_ret (v := .tuple #[.int .i64 nx, .agg #[.bool false, .int .i64 0, .int .i64 0], .int .i64 0]) (by simp [results, Try.results21, go_sem, y0, y1, y2]) rfl ?_
                  rw [hfin.out]
                  exact rspost_below H.out (by repeat (first | exact below_then HB0.out HB4.out | refine below_setB ?_ (Nat.le_refl _) _ _))
                | some k =>
                  obtain ⟨hlt, hk1, hq, hdl, hpt⟩ := oidx_some hg
                  have HREST2 := Lib.hid (show s.do id what = (if nx ≠ 4 then ({ s with es := s.es.set k (id, nx) }, nx, noFault, 0)
                      else if what = 8 then (({ s with es := adel id s.es } : RS).drop id, nx, noFault, 0)
                      else ({ s with es := adel id s.es }, nx, noFault, 0)) by rw [HREST.out, if_neg (by simp [he]), if_neg h1, if_neg h2, if_neg (by rw [hq]; simp), hpt])
                  rw [hg] at HFD
                  have HK1 := Lib.hid hk1
                  have HDL := Lib.hid hdl
                  clear he h1 h2 hg x0 x1 x2 xf xl hq hpt hdl hk1
                  go_wp2_with fail
                  go_at_call 38
                  refine HFD.out.mono ?_
                  unfold oidxI
                  rintro e w4 ⟨rfl, hb4⟩
                  have HB4 := Lib.hid (below_then HB3.out hb4)
                  have HX4 := Lib.hid (HX0.out.below HB4.out)
                  have hybx := BlockIs.keeps (S := fun _ => False) (BlockIs.new w [.bool false, .int .i64 0, .int .i64 0] 53) (Keeps.of_below HB4.out) (fun h => h)
                  have yl := hybx.lt
                  have yf := hybx.free
                  have y0 := hybx.cell 0
                  have y1 := hybx.cell 1
                  have y2 := hybx.cell 2
                  simp only [List.getElem?_cons_zero, List.getElem?_cons_succ] at y0 y1 y2
                  clear hybx
                  clear hb4
                  obtain ⟨p, cap, e0, hcap, hcm, hc⟩ := HX4.out.row.form
                  obtain ⟨g, e1, a0, a1, hgl⟩ := hc k hlt
                  subst e1
                  subst e0
                  have c3 := HX4.out.cells.2.2.2.1
                  have cf := HX4.out.blk.free
                  have hbl4 := HX4.out.blk.lt
                  have hki : (k : Int) < s.es.length := by omega
                  have hgw : g < w.heap.size := (World.ownsRow.lt H.out.row g rfl).2
                  clear hc
                  have HX5 := Lib.hid (HX4.out.setL k hlt id nx HK1.out)
                  have HB5 : Hid (BlockIs (w4.setCell ⟨g, k * 2 + 1, none⟩ (.int .i64 nx)) w.heap.size [.bool false, .int .i64 0, .int .i64 0]) := Lib.hid ((BlockIs.keeps (S := fun _ => False) (BlockIs.new w [.bool false, .int .i64 0, .int .i64 0] 53) (Keeps.of_below HB4.out) (fun h => h)).far (p := ⟨g, k * 2 + 1, none⟩) (Nat.ne_of_gt hgw) _)
                  have HC5 : Hid (RSCore base xb (.slice (some ⟨g, 0, none⟩) s.es.length cap) gv { s with es := s.es.set k (id, nx) } (w.alloc (.cells #[.bool false, .int .i64 0, .int .i64 0] 53)) (w4.setCell ⟨g, k * 2 + 1, none⟩ (.int .i64 nx))) := Lib.hid ⟨_, _, HX5.out, fun x hx => .inl hx, (Keeps.of_below HB4.out).set1 (.inr (.inl rfl)) _ _⟩
                  have HK0 : Hid (Keeps (rsfoot xb (.slice (some ⟨g, 0, none⟩) s.es.length cap) gv) w (w.alloc (.cells #[.bool false, .int .i64 0, .int .i64 0] 53))) := Lib.hid (Keeps.of_below HB0.out)
                  have HK05 : Hid (Keeps (rsfoot xb (.slice (some ⟨g, 0, none⟩) s.es.length cap) gv) (w.alloc (.cells #[.bool false, .int .i64 0, .int .i64 0] 53)) (w4.setCell ⟨g, k * 2 + 1, none⟩ (.int .i64 nx))) := Lib.hid ((Keeps.of_below HB4.out).set1 (.inr (.inl rfl)) _ _)
                  have HFL : Hid (∀ x, rsfoot xb (.slice (some ⟨g, 0, none⟩) s.es.length cap) gv x → x < w.heap.size) := Lib.hid (fun x hx => H.out.foot_lt hx)
                  have HSZ : Hid (w.heap.size < (w.alloc (.cells #[.bool false, .int .i64 0, .int .i64 0] 53)).heap.size) := Lib.hid (by rw [size_alloc']; omega)
                  have hgf := HX4.out.row.free (by omega : 0 < s.es.length)
                  go_upto_region 17 with fail
                  generalize hw5 : w4.setCell ⟨g, k * 2 + 1, none⟩ (.int .i64 nx) = w5 at *
                  clear hw5 y0 y1 y2 yf yl a0 a1 c3 cf hbl4 hgl
                  have hb5 := HB5.out
                  have zl := hb5.lt
                  have zf := hb5.free
                  have z0 := hb5.cell 0
                  have z1 := hb5.cell 1
                  have z2 := hb5.cell 2
                  simp only [List.getElem?_cons_zero, List.getElem?_cons_succ] at z0 z1 z2
                  have c3 := HX5.out.cells.2.2.2.1
                  have cf := HX5.out.blk.free
                  have hbl5 := HX5.out.blk.lt
                  clear hb5
                  by_cases h4 : nx = 4
                  · have b4 : (nx == 4) = true := by simp [h4]
                    have hrest3 := Lib.hid (show s.do id what = (if what = 8 then (({ s with es := adel id s.es } : RS).drop id, nx, noFault, 0) else ({ s with es := adel id s.es }, nx, noFault, 0)) by rw [HREST2.out, if_neg (by simp [h4])])
                    clear h4
                    obtain ⟨i0, hi, hz0, hz1, hz2⟩ := info_parts ione10
                    have hlen5 := HNL.out
                    have hgl5 : g < w5.heap.size := (World.ownsRow.lt HX5.out.row g rfl).2
                    have HCC : Hid (∀ j u, (oflat (s.es.set k (id, nx)))[j]? = some u → w5.cell? ⟨g, j, none⟩ = some u) := Lib.hid (fun j u hj => by have := World.ownsRow.cells HX5.out.row (g := g) rfl j u hj; rwa [oadd_none, Nat.zero_add] at this)
                    have HT1 := Lib.hid (oflat_cut1 s.es k (id, nx))
                    have HT2 := Lib.hid (oflat_cut2 s.es k (id, nx))
                    have HC1 : Hid (∀ j u, (oflat (s.es.take k))[j]? = some u → w5.cell? ((⟨g, 0, none⟩ : Addr).add j) = some u) := Lib.hid (fun j u hj => by
                      rw [oadd_none, Nat.zero_add]
                      refine HCC.out j u ?_
                      rw [HT1.out, List.getElem?_append_left (List.getElem?_eq_some_iff.1 hj).1]; exact hj)
                    have HC2 : Hid (∀ j u, (oflat (s.es.drop (k + 1)))[j]? = some u → w5.cell? ⟨g, (k + 1) * 2 + j, none⟩ = some u) := Lib.hid (fun j u hj => by
                      refine HCC.out _ u ?_
                      have hl : (oflat ((s.es.set k (id, nx)).take (k + 1))).length = (k + 1) * 2 := by rw [oflat_len, List.length_take, List.length_set, Nat.min_eq_left (by omega)]
                      rw [HT2.out, List.getElem?_append_right (by omega), hl, Nat.add_sub_cancel_left]; exact hj)
                    have H1C : Hid (∀ l : List (Int × Int), ∀ u ∈ oflat l, u.oneCell' = true) := Lib.hid (fun l u hu => by
                      unfold oflat at hu
                      obtain ⟨x, _, hx⟩ := List.mem_flatMap.1 hu
                      simp only [oneC, List.mem_cons, List.not_mem_nil, or_false] at hx
                      rcases hx with rfl | rfl <;> rfl)
                    have HTL : Hid ((s.es.take k).length = k) := Lib.hid (by rw [List.length_take]; omega)
                    have HDLN : Hid ((s.es.drop (k + 1)).length = s.es.length - (k + 1)) := Lib.hid (by rw [List.length_drop])
                    have HBS : Hid (base ≤ w5.heap.size) := Lib.hid (Nat.le_trans HBASE.out (Nat.le_trans (Nat.le_of_lt zl) (Nat.le_refl _)))
                    rcases Nat.lt_or_ge (k + 1) cap with hc | hc
                    · have hck : ¬ cap = k + 1 := by omega
                      go_upto_region 21 with (first | (at_builtin; refine wpList_append_own _ rfl _ _ 47 rfl w5.heap.size 72 i0 (.agg #[.int .i64 0, .int .i64 0]) 2 16 Try.underlying47 hi hz0 hz1 hz2 rfl (by decide) (.slice none 0 0) 0 [] rfl (World.ownsRow_nil _ _ _ _) ⟨g, 0, none⟩ k cap (oflat (s.es.take k)) rfl (by rw [oflat_len, HTL.out]) HC1.out (H1C.out _) (by unfold maxLen; omega) (by omega) (Nat.le_refl _) ?_; intro v1 w6 ho1 hg1 _; have HXB6 := Lib.hid (HX5.out.blk.of_same (hg1.block xb HX5.out.blk.lt (fun e => by cases e))); have e3 := HXB6.out.cell 3; have ef6 := HXB6.out.free; simp only [RS.cells, List.getElem?_cons_zero, List.getElem?_cons_succ] at e3; have HV1 : Hid (∀ x, x < w5.heap.size → ¬ some x = Value.ownBlock v1) := Lib.hid (fun x hx e => by (have h1 := (World.ownsRow.lt ho1 x e.symm).1; omega)); have HB6 := Lib.hid (HB5.out.of_same (hg1.block w.heap.size HB5.out.lt (fun e => by cases e))); have HC22 : Hid (∀ j u, (oflat (s.es.drop (k + 1)))[j]? = some u → w6.cell? ⟨g, (k + 1) * 2 + j, none⟩ = some u) := Lib.hid (fun j u hj => (World.cell?_of_block (hg1.block g hgl5 (fun e => by cases e))).trans (HC2.out j u hj)); have hsz6 : w5.heap.size ≤ w6.heap.size := hg1.size; have HO1 := Lib.hid ho1; have HG1 := Lib.hid hg1; clear ho1 hg1) | (at_builtin; refine wpList_append_own _ rfl _ _ 47 rfl w5.heap.size 72 i0 (.agg #[.int .i64 0, .int .i64 0]) 2 16 Try.underlying47 hi hz0 hz1 hz2 rfl (by decide) _ (0 + k) ([] ++ oflat (s.es.take k)) rfl HO1.out ⟨g, (k + 1) * 2, none⟩ (s.es.length - (k + 1)) (cap - (k + 1)) (oflat (s.es.drop (k + 1))) rfl (by rw [oflat_len, HDLN.out]) (fun j u hj => by rw [oadd_none]; exact HC22.out j u hj) (H1C.out _) (by unfold maxLen; omega) (by omega) (by omega) ?_; intro v2 w7 ho2 hg2 _; obtain ⟨p2, c2, hv2⟩ := sown_slice ho2; subst hv2; have HXB7 := Lib.hid (HXB6.out.of_same (hg2.block xb HXB6.out.lt (HV1.out xb hbl5))); have e37 := HXB7.out.cell 3; have ef7 := HXB7.out.free; simp only [RS.cells, List.getElem?_cons_zero, List.getElem?_cons_succ] at e37; have HO2 := Lib.hid ho2; have HG2 := Lib.hid hg2; clear ho2 hg2))
                      have HCR := Lib.hid (rdel_fin (v2 := .slice p2 (k + (s.es.length - (k + 1))) c2) HX5.out HG1.out HG2.out HO1.out (by have h := HO2.out; simp only [Nat.zero_add] at h ⊢; exact h) HDL.out hlt HBS.out)
                      have hb8 := HCR.out.box HB5.out (fun e => Nat.lt_irrefl _ (HFL.out _ e))
                      have hcw := HCR.out.comp (fun x hx => .inl hx) HK05.out
                      generalize hw8 : w7.setCell ⟨xb, 3, none⟩ _ = w8 at *
                      clear hw8 z0 z1 z2 zf zl c3 cf hbl5 e3 e37 ef6 ef7
                      have HB8 := Lib.hid hb8
                      have HCW := Lib.hid hcw
                      obtain ⟨lv8, gv8, hx8, hf8, hk8⟩ := hcw
                      have HX8 := Lib.hid hx8
                      have HF8 := Lib.hid hf8
                      have HK8 := Lib.hid hk8
                      have x0 := hb8.cell 0
                      have x1 := hb8.cell 1
                      have x2 := hb8.cell 2
                      have xf := hb8.free
                      have xl := hb8.lt
                      simp only [List.getElem?_cons_zero, List.getElem?_cons_succ] at x0 x1 x2
                      clear hb8 hx8 hf8 hk8
                      by_cases h8 : what = 8
                      · have hfin := Lib.hid (show s.do id what = (({ s with es := adel id s.es } : RS).drop id, nx, noFault, 0) by rw [hrest3.out, if_pos h8])
                        have b8 : (what == 8) = true := by simp [h8]
                        have HDR := Lib.hid (rdrop_any HX8.out (Nat.le_trans HBASE.out (Nat.le_of_lt xl)) id)
                        clear h8
                        go_wp2_with fail
                        go_at_call 35
                        refine HDR.out.mono ?_
                        rintro e w9 hp
                        obtain ⟨rfl, hc9⟩ := hp.core
                        have hb9 := hc9.box HB8.out (fun e => (HF8.out _ e).elim (fun h => Nat.lt_irrefl _ (HFL.out _ h)) (fun h => absurd HSZ.out (Nat.not_lt.2 h)))
                        have HC9 := Lib.hid (RSCore.comp HF8.out HK8.out hc9)
                        have y0 := hb9.cell 0
                        have y1 := hb9.cell 1
                        have y2 := hb9.cell 2
                        have yf := hb9.free
                        have yl := hb9.lt
                        simp only [List.getElem?_cons_zero, List.getElem?_cons_succ] at y0 y1 y2
                        clear hb9 hc9 hp x0 x1 x2 xf xl
                        go_wp2_with fail
                        refine bodyPost_ret (v := .tuple #[.int .i64 nx, .agg #[.bool false, .int .i64 0, .int .i64 0], .int .i64 0]) (by simp [results, Try.results21, go_sem, y0, y1, y2]) rfl ?_
                        rw [hfin.out]
                        refine (RSCore.boxed HK0.out HFL.out (Nat.le_refl _) HSZ.out HC9.out ?_).post
                        exact (((Keeps.refl (fun x => x = w.heap.size) _).set1 rfl _ _).set1 rfl _ _).set1 rfl _ _
                      · have hfin := Lib.hid (show s.do id what = ({ s with es := adel id s.es }, nx, noFault, 0) by rw [hrest3.out, if_neg h8])
                        have b8 : (what == 8) = false := by simp [h8]
                        clear h8
                        go_wp2_with fail
                        refine bodyPost_ret (v := .tuple #[.int .i64 nx, .agg #[.bool false, .int .i64 0, .int .i64 0], .int .i64 0]) (by simp [results, Try.results21, go_sem, x0, x1, x2]) rfl ?_
                        rw [hfin.out]
                        refine (RSCore.boxed HK0.out HFL.out (Nat.le_refl _) HSZ.out HCW.out ?_).post
                        exact (((Keeps.refl (fun x => x = w.heap.size) _).set1 rfl _ _).set1 rfl _ _).set1 rfl _ _
                    · have HN1 : Hid (s.es.length ≤ k + 1) := Lib.hid (by omega)
                      obtain rfl : cap = k + 1 := by omega
                      go_upto_region 21 with (first | (at_builtin; refine wpList_append_own _ rfl _ _ 47 rfl w5.heap.size 72 i0 (.agg #[.int .i64 0, .int .i64 0]) 2 16 Try.underlying47 hi hz0 hz1 hz2 rfl (by decide) (.slice none 0 0) 0 [] rfl (World.ownsRow_nil _ _ _ _) ⟨g, 0, none⟩ k (k + 1) (oflat (s.es.take k)) rfl (by rw [oflat_len, HTL.out]) HC1.out (H1C.out _) (by unfold maxLen; omega) (by omega) (Nat.le_refl _) ?_; intro v1 w6 ho1 hg1 _; have HXB6 := Lib.hid (HX5.out.blk.of_same (hg1.block xb HX5.out.blk.lt (fun e => by cases e))); have e3 := HXB6.out.cell 3; have ef6 := HXB6.out.free; simp only [RS.cells, List.getElem?_cons_zero, List.getElem?_cons_succ] at e3; have HV1 : Hid (∀ x, x < w5.heap.size → ¬ some x = Value.ownBlock v1) := Lib.hid (fun x hx e => by (have h1 := (World.ownsRow.lt ho1 x e.symm).1; omega)); have HB6 := Lib.hid (HB5.out.of_same (hg1.block w.heap.size HB5.out.lt (fun e => by cases e))); have HC22 : Hid (∀ j u, (oflat (s.es.drop (k + 1)))[j]? = some u → w6.cell? ⟨g, (k + 1) * 2 + j, none⟩ = some u) := Lib.hid (fun j u hj => (World.cell?_of_block (hg1.block g hgl5 (fun e => by cases e))).trans (HC2.out j u hj)); have hsz6 : w5.heap.size ≤ w6.heap.size := hg1.size; have HO1 := Lib.hid ho1; have HG1 := Lib.hid hg1; clear ho1 hg1) | (at_builtin; refine wpList_append_own _ rfl _ _ 47 rfl w5.heap.size 72 i0 (.agg #[.int .i64 0, .int .i64 0]) 2 16 Try.underlying47 hi hz0 hz1 hz2 rfl (by decide) _ (0 + k) ([] ++ oflat (s.es.take k)) rfl HO1.out ⟨g, 0, none⟩ 0 0 [] rfl rfl (fun j u hj => by simp at hj) (fun u hu => by simp at hu) (by unfold maxLen; omega) (by omega) (by omega) ?_; intro v2 w7 ho2 hg2 _; obtain ⟨p2, c2, hv2⟩ := sown_slice ho2; subst hv2; have HXB7 := Lib.hid (HXB6.out.of_same (hg2.block xb HXB6.out.lt (HV1.out xb hbl5))); have e37 := HXB7.out.cell 3; have ef7 := HXB7.out.free; simp only [RS.cells, List.getElem?_cons_zero, List.getElem?_cons_succ] at e37; have HO2 := Lib.hid ho2; have HG2 := Lib.hid hg2; clear ho2 hg2))
                      have HCR := Lib.hid (rdel_fin (v2 := .slice p2 k c2) HX5.out HG1.out HG2.out HO1.out (by rw [show s.es.length - (k + 1) = 0 by (have := HN1.out; omega), show oflat (s.es.drop (k + 1)) = [] by (rw [List.drop_of_length_le HN1.out]; rfl)]; have h := HO2.out; simp only [Nat.zero_add, Nat.add_zero] at h ⊢; exact h) HDL.out hlt HBS.out)
                      have hb8 := HCR.out.box HB5.out (fun e => Nat.lt_irrefl _ (HFL.out _ e))
                      have hcw := HCR.out.comp (fun x hx => .inl hx) HK05.out
                      generalize hw8 : w7.setCell ⟨xb, 3, none⟩ _ = w8 at *
                      clear hw8 z0 z1 z2 zf zl c3 cf hbl5 e3 e37 ef6 ef7
                      have HB8 := Lib.hid hb8
                      have HCW := Lib.hid hcw
                      obtain ⟨lv8, gv8, hx8, hf8, hk8⟩ := hcw
                      have HX8 := Lib.hid hx8
                      have HF8 := Lib.hid hf8
                      have HK8 := Lib.hid hk8
                      have x0 := hb8.cell 0
                      have x1 := hb8.cell 1
                      have x2 := hb8.cell 2
                      have xf := hb8.free
                      have xl := hb8.lt
                      simp only [List.getElem?_cons_zero, List.getElem?_cons_succ] at x0 x1 x2
                      clear hb8 hx8 hf8 hk8
                      by_cases h8 : what = 8
                      · have hfin := Lib.hid (show s.do id what = (({ s with es := adel id s.es } : RS).drop id, nx, noFault, 0) by rw [hrest3.out, if_pos h8])
                        have b8 : (what == 8) = true := by simp [h8]
                        have HDR := Lib.hid (rdrop_any HX8.out (Nat.le_trans HBASE.out (Nat.le_of_lt xl)) id)
                        clear h8
                        go_wp2_with fail
                        go_at_call 35
                        refine HDR.out.mono ?_
                        rintro e w9 hp
                        obtain ⟨rfl, hc9⟩ := hp.core
                        have hb9 := hc9.box HB8.out (fun e => (HF8.out _ e).elim (fun h => Nat.lt_irrefl _ (HFL.out _ h)) (fun h => absurd HSZ.out (Nat.not_lt.2 h)))
                        have HC9 := Lib.hid (RSCore.comp HF8.out HK8.out hc9)
                        have y0 := hb9.cell 0
                        have y1 := hb9.cell 1
                        have y2 := hb9.cell 2
                        have yf := hb9.free
                        have yl := hb9.lt
                        simp only [List.getElem?_cons_zero, List.getElem?_cons_succ] at y0 y1 y2
                        clear hb9 hc9 hp x0 x1 x2 xf xl
                        go_wp2_with fail
                        refine bodyPost_ret (v := .tuple #[.int .i64 nx, .agg #[.bool false, .int .i64 0, .int .i64 0], .int .i64 0]) (by simp [results, Try.results21, go_sem, y0, y1, y2]) rfl ?_
                        rw [hfin.out]
                        refine (RSCore.boxed HK0.out HFL.out (Nat.le_refl _) HSZ.out HC9.out ?_).post
                        exact (((Keeps.refl (fun x => x = w.heap.size) _).set1 rfl _ _).set1 rfl _ _).set1 rfl _ _
                      · have hfin := Lib.hid (show s.do id what = ({ s with es := adel id s.es }, nx, noFault, 0) by rw [hrest3.out, if_neg h8])
                        have b8 : (what == 8) = false := by simp [h8]
                        clear h8
                        go_wp2_with fail
                        refine bodyPost_ret (v := .tuple #[.int .i64 nx, .agg #[.bool false, .int .i64 0, .int .i64 0], .int .i64 0]) (by simp [results, Try.results21, go_sem, x0, x1, x2]) rfl ?_
                        rw [hfin.out]
                        refine (RSCore.boxed HK0.out HFL.out (Nat.le_refl _) HSZ.out HCW.out ?_).post
                        exact (((Keeps.refl (fun x => x = w.heap.size) _).set1 rfl _ _).set1 rfl _ _).set1 rfl _ _
                  · have b4 : (nx == 4) = false := by simp [h4]
                    have hfin := Lib.hid (show s.do id what = ({ s with es := s.es.set k (id, nx) }, nx, noFault, 0) by rw [HREST2.out, if_pos h4])
                    clear h4
                    go_wp2_with fail
                    refine bodyPost_ret (v := .tuple #[.int .i64 nx, .agg #[.bool false, .int .i64 0, .int .i64 0], .int .i64 0]) (by simp [results, Try.results21, go_sem, z0, z1, z2]) rfl ?_
                    rw [hfin.out]
                    refine (RSCore.boxed HK0.out HFL.out (Nat.le_refl _) HSZ.out HC5.out ?_).post
                    exact (((Keeps.refl (fun x => x = w.heap.size) _).set1 rfl _ _).set1 rfl _ _).set1 rfl _ _
          · have hfin := Lib.hid (show s.do id what = (s, 0, noFault, er) by rw [HREST.out, if_pos he])
            have be : (er != 0) = true := by simpa using he
            clear he
            go_wp2_with fail
            refine bodyPost_ret (v := .tuple #[.int .i64 0, .agg #[.bool false, .int .i64 0, .int .i64 0], .int .i64 er]) (by simp [results, Try.results21, go_sem, x0, x1, x2]) rfl ?_
            rw [hfin.out]
            exact rspost_below H.out (by repeat (first | exact below_then HB0.out HB3.out | refine below_setB ?_ (Nat.le_refl _) _ _))
end
end Go.Proofs.Ytfhcafpocmapkaa
