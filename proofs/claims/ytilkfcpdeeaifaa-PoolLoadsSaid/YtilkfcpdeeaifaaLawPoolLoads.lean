/- The walk of PoolLoads: a load is taken just where there is a slot. -/
import Derived.Test.YtilkfcpdeeaifaaLawPoolPlays
import Derived.BigRegion
import Derived.Deep.LoopGhost
import Derived.Deep.RegionHeld
import Derived.OrdersHeld
import Derived.Deep.DeepCutAuto
import Derived.Deep.QuietTactic
import Derived.BigQuiet
set_option linter.unusedVariables false
set_option linter.unusedSimpArgs false
set_option linter.unusedSectionVars false
namespace Go.Proofs.Ytilkfcpdeeaifaa
open Go.RowKit Go.Sort
theorem below_drewN (w : World) (n : Nat) : Below w.heap.size w (w.drewN n) := ⟨rfl, rfl, rfl, Nat.le_refl _, fun _ _ => rfl⟩
theorem alloc_drew_ne {w : World} {o : Obj} {g : Nat} (h : (w.alloc o).drew.heap.size ≤ g) : g ≠ w.heap.size := by
  have e : (w.alloc o).drew.heap.size = w.heap.size + 1 := by
    show (w.alloc o).heap.size = _
    simp
  omega
theorem wpAnyH_strong {P : Program} {ops : Array Oper} {Q : Exit → Act → World → Prop} {md : Region.Mode} {S S1 : World → Prop} (h : ∀ w, S1 w → S w) : ∀ (fuel : Nat) (listed : Array Bool) (a : Act) (w : World), wpAnyH P md ops Q S1 fuel listed a w → wpAnyH P md ops Q S fuel listed a w
  | 0, _, _, _, k => k
  | fuel + 1, _, _, _, k => ⟨k.1, fun i hi => wpOp_mono (fun a' w' h' => ⟨h w' h'.1, wpAnyH_strong h fuel _ a' w' h'.2⟩) (k.2 i hi)⟩
theorem get_at {s : PS} {i : Nat} (hi : i < s.bs.length) : s.get i = some s.bs[i] := by
  unfold PS.get
  rw [if_neg (by omega)]
  simp [hi]
theorem state_at {s : PS} {i : Nat} (hi : i < s.bs.length) : s.stateF i = s.bs[i].st := by
  unfold PS.stateF
  rw [get_at hi]
set_option maxHeartbeats 8000000 in
set_option maxRecDepth 100000 in
theorem poolLoads_walk (A : Option Addr) (cap : Nat) (l : List Op3) (w : World) (hl : OpsAt w A l) (hm : l.length * 24 ≤ 140737488351232) (hw : ∀ y ∈ l, y.fits) :
    Calls Try.prog 5 #[.slice A l.length cap] w fun e w' => e = .returned (.bool true) ∧ Below w.heap.size w w' := by
  have HL := Lib.hid hl
  have HW := Lib.hid hw
  have HN1 := Lib.hid (fun w => pnew_any 3 2 2 1 1 4 (by decide) (by decide) (by decide) (by decide) (by decide) (by decide) (by decide) w)
  have HN2 := Lib.hid (fun w => Rf.rpnew_any 3 2 2 1 1 4 (by decide) (by decide) (by decide) (by decide) (by decide) (by decide) (by decide) w)
  clear hl hw
  go_enter Try.func5, Try.ntmps5
  go_wp2_with fail
  refine (HN1.out _).mono ?_
  rintro e w1 ⟨B, pb, wb, wm, gl, sv, v, s1, rfl, h1, h2, h3, h4, h5, h6⟩
  have HA1 := Lib.hid h1
  have HA2 := Lib.hid h2
  have HA3 := Lib.hid h3
  have HA4 := Lib.hid h4
  have HA5 := Lib.hid h5
  have HA6 := Lib.hid h6
  clear h1 h2 h3 h4 h5 h6
  go_wp2_with fail
  refine (HN2.out _).mono ?_
  rintro e w2 ⟨B', pb', xb, gl', rv, v', s2, rfl, k1, k2, k3, k4, k5, k6⟩
  have HT0 := Lib.hid (ptwo_new (n := 3) HA1.out HA2.out HA4.out HA5.out HA6.out k1 k2 k4 k5 k6)
  have HS0 := Lib.hid (new_like HA3.out k3)
  have HR0 : Hid (s1.Run 16) := Lib.hid ((NewOk.run HA3.out (by decide) (by decide) (by decide) (by decide) (by decide)).mono (by decide))
  have HF0 := Lib.hid (new_fit HA3.out (by decide) (by decide) (by decide) 16)
  have HL0 := Lib.hid HA3.out.len
  clear k1 k2 k3 k4 k5 k6 HA1 HA2 HA4 HA5 HA6 HA3 HN1 HN2
  go_wp2_with fail
  go_loopg [7] l.length (fun kq i wr => ∃ (k : Nat) (t1 t2 : PS), kq = l.length - k ∧ k ≤ l.length ∧ i = .int .i64 k ∧ Hid (PTwo w B pb wb wm gl v B' pb' xb gl' v' [] t1 t2 wr) ∧ Hid (t1.strip = t2.strip) ∧ Hid (t1.Run (16 + k)) ∧ Hid (t1.Fit (16 + k)) ∧ Hid (t1.bs.length = 3))
  case atStart => exact ⟨0, s1, s2, rfl, by omega, rfl, HT0, HS0, HR0, HF0, HL0⟩
  case round =>
    obtain ⟨k, t1, t2, hkq, hk, rfl, HT, HS, HR, HF, HN3⟩ := hrel
    have HKQ := Lib.hid hkq
    clear hkq
    by_cases hlt : k < l.length
    · obtain ⟨g, o, rfl, c0, c1, c2, hg⟩ := (HL.out.below HT.out.below0).get k hlt
      have HFT := Lib.hid (HW.out l[k] (List.getElem_mem hlt))
      generalize l[k] = op at *
      have HPL := Lib.hid (fun w' (hb : Below wr.heap.size wr w') => play19_any (HT.out.below hb) HR.out HF.out HS.out (by omega) op)
      have HR2 : Hid ((t1.opF op).Run (16 + k + 1)) := Lib.hid (HR.out.op HF.out (by
        have h9 := HFT.out.2.2
        simp [Lit.wf, IntKind.min, IntKind.max, IntKind.signed, IntKind.bits] at h9
        omega))
      have HF2 := Lib.hid (HF.out.op op)
      have HS2 : Hid ((t1.opF op).strip = (t2.opF op).strip) := Lib.hid (by rw [strip_op, strip_op, HS.out])
      have HN2 : Hid ((t1.opF op).bs.length = 3) := Lib.hid ((op_len t1 op).trans HN3.out)
      clear HFT
      obtain ⟨ow, oi, on⟩ := op
      simp only at c0 c1 c2
      have hX := HT.out.box [.int .i64 ow, .int .i64 oi, .int .i64 on] 41
      have HX := Lib.hid hX
      obtain ⟨x0, x1, x2, xl⟩ := hX.cells
      clear hX
      by_cases q5 : ow = 5
      · subst q5
        by_cases q : 0 ≤ oi ∧ oi < 3
        · obtain ⟨i, rfl⟩ : ∃ i : Nat, oi = (i : Int) := ⟨oi.toNat, by omega⟩
          have hi3 : (i : Int) < 3 := q.2
          have hi : i < t1.bs.length := by rw [HN3.out]; omega
          have hg1 := get_at hi
          have hb1 := HR.out.good.bs _ (List.getElem_mem hi)
          have hl0 := hb1.ld
          have hl1 := hb1.ldb
          have hm1 := hb1.may
          have HTK1 : Hid (∀ s : PS, s.opF ⟨5, i, on⟩ = (s.takeF i).1) := Lib.hid (fun s => rfl)
          have HRT2 := Lib.hid (like_run HS.out HR.out)
          have HSL : Hid (t1.bs[i].slots = if t1.bs[i].st = 2 then max 0 (t1.bs[i].may - t1.bs[i].ld) else 0) := Lib.hid rfl
          have HET : Hid ((t2.takeF i).2 = (t1.takeF i).2) := Lib.hid (by rw [(strip_take t1 i).2, (strip_take t2 i).2, HS.out])
          have HSI := Lib.hid (state_at hi)
          clear hb1 q HPL
          go_wp2_with fail
          refine (two_backs HX.out HR.out).mono ?_
          rintro e wa ⟨ra, rfl, hba, hoa⟩
          have HXA := Lib.hid (HX.out.below hba)
          obtain ⟨pa, capa, ea⟩ := hoa.form
          rw [HN3.out] at ea
          subst ea
          obtain ⟨u0, u1, u2, ul⟩ := HXA.out.cells
          clear hba hoa
          go_upto_region 10 with (fail)
          go_cut [9] (fun v9 wx => ∃ bb : Nat, v9 = .pointer (some ⟨bb, 0, none⟩) ∧ Hid (PTwo w B pb wb wm gl v B' pb' xb gl' v' [(bb, [.bool t1.bs[i].up, .int .i64 t1.bs[i].slots, .int .i64 t1.bs[i].ld]), (wr.heap.size, [.int .i64 5, .int .i64 i, .int .i64 on])] t1 t2 wx))
          case first =>
            have HXD := Lib.hid (HXA.out.below (Below.refl wa.heap.size wa).drew)
            obtain ⟨y0, y1, y2, yl⟩ := HXD.out.cells
            have HB2 := Lib.hid (fun w' (hb : Below wa.heap.size wa w') => two_backs (HXA.out.below hb) HR.out)
            have HXZ := Lib.hid ((HXA.out.box [.bool false, .int .i64 0, .int .i64 0] 45).below (Below.refl _ _).drew)
            have HWA : Hid (w.heap.size ≤ wa.heap.size) := Lib.hid HXA.out.below0.size
            have hne5 : wr.heap.size ≠ wa.heap.size := by omega
            have hne6 : wa.heap.size ≠ wr.heap.size := by omega
            go_region_with (first | (go_at_call 19; refine (HB2.out _ (Below.refl _ _).drew).mono ?_; rintro e wb ⟨rb, rfl, hbb, hob⟩; have HXB := Lib.hid (HXD.out.below hbb); obtain ⟨z0, z1, z2, zl⟩ := HXB.out.cells; obtain ⟨pbk, capb, eb⟩ := hob.form; rw [HN3.out] at eb; subst eb; obtain ⟨gb, qb, b0, b1, b2, b3, _⟩ := OwnsB.at hob hi; subst qb; clear hbb hob) | (go_at_call 19; refine (HB2.out _ (below_al (Below.refl _ _) _).drew).mono ?_; rintro e wb ⟨rb, rfl, hbb, hob⟩; have HXB := Lib.hid (HXZ.out.below hbb); obtain ⟨z0, z1, z2, zl⟩ := HXB.out.cells2; obtain ⟨y50, y51, y52, y5l⟩ := HXB.out.cells; have hfz : ∀ o, wb.frozen? ⟨wa.heap.size, o, none⟩ = false := (HXB.out.boxed).free; obtain ⟨pbk, capb, eb⟩ := hob.form; rw [HN3.out] at eb; subst eb; obtain ⟨gb, qb, b0, b1, b2, b3, hgb⟩ := OwnsB.at hob hi; subst qb; have hgb2 := alloc_drew_ne hgb; clear hbb hob hgb))
            all_goals
              (try go_wp2_with fail)
              go_meet
              first
                | exact ⟨_, rfl, Lib.hid (HXB.out.box [.bool t1.bs[i].up, .int .i64 t1.bs[i].slots, .int .i64 t1.bs[i].ld] 45)⟩
                | exact ⟨_, rfl, Lib.hid ((HXB.out.box [.bool t1.bs[i].up, .int .i64 t1.bs[i].slots, .int .i64 t1.bs[i].ld] 45).below (Below.refl _ _).drew)⟩
                | exact ⟨_, rfl, Lib.hid (((HXB.out.setbox HWA.out (by simp; omega) 0 (.bool t1.bs[i].up)).setbox HWA.out (by simp; omega) 1 (.int .i64 t1.bs[i].slots)).setbox HWA.out (by simp; omega) 2 (.int .i64 t1.bs[i].ld))⟩
                | exact ⟨_, rfl, Lib.hid ((((HXB.out.setbox HWA.out (by simp; omega) 0 (.bool t1.bs[i].up)).setbox HWA.out (by simp; omega) 1 (.int .i64 t1.bs[i].slots)).setbox HWA.out (by simp; omega) 2 (.int .i64 t1.bs[i].ld)).below (Below.refl _ _).drew)⟩
          case rest =>
            obtain ⟨bb, rfl, HX5⟩ := hcut
            obtain ⟨v0, v1, v2, vl⟩ := HX5.out.cells2
            by_cases hst : t1.bs[i].st = 2
            · by_cases hfull : t1.bs[i].may ≤ t1.bs[i].ld
              · have HTK : Hid (t1.takeF i = (t1, 9)) := Lib.hid (by unfold PS.takeF; rw [hg1]; simp only [if_pos (show [(2 : Int)].contains t1.bs[i].st = true by rw [hst]; rfl), if_pos hfull])
                have HSV : Hid (t1.bs[i].slots = 0) := Lib.hid (by rw [HSL.out, if_pos hst]; omega)
                go_wp2_with fail
                refine (two_take HX5.out HR.out (by omega) i).mono ?_
                rw [HTK.out]
                rintro e w6 ⟨rfl, h6⟩
                have HX6 := Lib.hid h6
                obtain ⟨d0, d1, d2, dl⟩ := h6.cells2
                clear h6
                go_wp2_with fail
                refine (two_rtake HX6.out HRT2.out (by omega) i).mono ?_
                rintro e w7 ⟨rfl, h7⟩
                have HX7 := Lib.hid h7
                obtain ⟨e0, e1, e2, el⟩ := (h7.below (Below.refl _ _).drew).cells2
                obtain ⟨f0, f1, f2, fl⟩ := (h7.below (Below.refl _ _).drew).cells
                obtain ⟨ee0, ee1, ee2, eel⟩ := h7.cells2
                obtain ⟨ff0, ff1, ff2, ffl⟩ := h7.cells
                clear h7
                rw [HSV.out] at f1 ff1
                have HST7 : Hid (∀ n, Calls Try.prog 16 #[.pointer (some ⟨pb, 0, none⟩), .int .i64 i] (w7.drewN n) fun e w'' => e = .returned (.int .i64 t1.bs[i].st) ∧ ∃ m, w'' = w7.drewN m) := Lib.hid (fun n => (two_state (HX7.out.below (below_drewN w7 n)) i).mono (fun e w'' ⟨he, hw⟩ => ⟨by rw [he, HSI.out], n, hw.symm⟩))
                rw [hst] at HST7
                go_wp2_with fail
                go_quiet ((go_at_call 16; exact HST7.out _))
                all_goals
                  go_wp2_with fail
                  go_roundg (l.length - (k + 1))
                  case measure => have := HKQ.out; omega
                  case rel => exact ⟨k + 1, _, _, rfl, by omega, by go_num, Lib.hid (by first | exact HX7.out.unbox | exact (HX7.out.below (Below.refl _ _).drew).unbox | exact (HX7.out.below (below_drewN w7 _)).unbox), Lib.hid (by have := HS2.out; rw [HTK1.out, HTK1.out, HTK.out] at this; exact this), Lib.hid (by have := HR2.out; rw [HTK1.out, HTK.out] at this; exact this), Lib.hid (by have := HF2.out; rw [HTK1.out, HTK.out] at this; exact this), Lib.hid (by have := HN2.out; rw [HTK1.out, HTK.out] at this; exact this)⟩
              · have HTK : Hid (t1.takeF i = (t1.setB i { t1.bs[i] with ld := t1.bs[i].ld + 1 }, 0)) := Lib.hid (by unfold PS.takeF; rw [hg1]; simp only [if_pos (show [(2 : Int)].contains t1.bs[i].st = true by rw [hst]; rfl), if_neg hfull, Int.toNat_natCast])
                have HSV : Hid (t1.bs[i].slots = t1.bs[i].may - t1.bs[i].ld) := Lib.hid (by rw [HSL.out, if_pos hst]; omega)
                have HLD1 : Hid (IntKind.i64.wrap (t1.bs[i].ld + 1) = t1.bs[i].ld + 1) := Lib.hid (by rw [IntKind.wrap_i64]; omega)
                have HRW : Hid ((t1.setB i { t1.bs[i] with ld := t1.bs[i].ld + 1 }).Run (16 + k + 1)) := Lib.hid (by have := HR2.out; rw [HTK1.out, HTK.out] at this; exact this)
                have HIS : Hid (i < (t1.setB i { t1.bs[i] with ld := t1.bs[i].ld + 1 }).bs.length) := Lib.hid (by show i < (t1.bs.set i _).length; rw [List.length_set]; exact hi)
                have HBS : Hid ((t1.setB i { t1.bs[i] with ld := t1.bs[i].ld + 1 }).bs[i]'HIS.out = { t1.bs[i] with ld := t1.bs[i].ld + 1 }) := Lib.hid (List.getElem_set_self _)
                have HLS : Hid ((t1.setB i { t1.bs[i] with ld := t1.bs[i].ld + 1 }).bs.length = 3) := Lib.hid (by show (t1.bs.set i _).length = 3; rw [List.length_set]; exact HN3.out)
                go_wp2_with fail
                refine (two_take HX5.out HR.out (by omega) i).mono ?_
                rw [HTK.out]
                rintro e w6 ⟨rfl, h6⟩
                have HX6 := Lib.hid h6
                obtain ⟨d0, d1, d2, dl⟩ := h6.cells2
                clear h6
                go_wp2_with fail
                refine (two_rtake HX6.out HRT2.out (by omega) i).mono ?_
                rintro e w7 ⟨rfl, h7⟩
                have HX7 := Lib.hid h7
                obtain ⟨e0, e1, e2, el⟩ := (h7.below (Below.refl _ _).drew).cells2
                obtain ⟨f0, f1, f2, fl⟩ := (h7.below (Below.refl _ _).drew).cells
                obtain ⟨ee0, ee1, ee2, eel⟩ := h7.cells2
                obtain ⟨ff0, ff1, ff2, ffl⟩ := h7.cells
                clear h7
                rw [HSV.out] at f1 ff1
                have HST7 := Lib.hid (two_state (HX7.out.below (Below.refl _ _).drew) i)
                rw [state_at HIS.out, HBS.out] at HST7
                simp only [hst] at HST7
                have HBK7 := Lib.hid (fun w' (hb : Below w7.heap.size w7 w') => two_backs (HX7.out.below hb) HRW.out)
                have hpos : 0 < t1.bs[i].may - t1.bs[i].ld := by omega
                have hposd : decide (0 < t1.bs[i].may - t1.bs[i].ld) = true := decide_eq_true hpos
                have hld1 := HLD1.out
                go_wp2_with fail
                refine wp_region_held_drew (S := (fun w' => w'.cell? ⟨wr.heap.size, 1, none⟩ = some (.int .i64 i) ∧ w'.cell? ⟨bb, 1, none⟩ = some (.int .i64 (t1.bs[i].may - t1.bs[i].ld)) ∧ w'.cell? ⟨bb, 2, none⟩ = some (.int .i64 t1.bs[i].ld))) (by kernel_rfl) ⟨e1, f1, f2⟩ (fun hHeld => ?_)
                refine wpAnyH_take (i := 0) (oi := _) (v := ?_) rfl (by kernel_rfl) (by kernel_rfl) (by kernel_rfl) (fun _ _ _ h => h) (Or.inl ⟨by rfl, ?_⟩) (by assumption) ?_
                rotate_left
                · (intro w hSw; (try dsimp only at hSw); go_simp; try with_reducible rfl)
                try simp only [Act.put, List.getElem_toArray, List.getElem_cons_zero, List.getElem_cons_succ, List.setIfInBounds_toArray, List.set_cons_zero, List.set_cons_succ]
                refine wpAnyH_take (i := 1) (oi := _) (v := ?_) rfl (by kernel_rfl) (by kernel_rfl) (by kernel_rfl) (fun _ _ _ h => h) (Or.inl ⟨by rfl, ?_⟩) (by assumption) ?_
                rotate_left
                · (intro w hSw; (try dsimp only at hSw); go_simp; try with_reducible rfl)
                try simp only [Act.put, List.getElem_toArray, List.getElem_cons_zero, List.getElem_cons_succ, List.setIfInBounds_toArray, List.set_cons_zero, List.set_cons_succ]
                refine wpAnyH_take (i := 2) (oi := _) (v := ?_) rfl (by kernel_rfl) (by kernel_rfl) (by kernel_rfl) (fun _ _ _ h => h) (Or.inl ⟨by rfl, ?_⟩) (by assumption) ?_
                rotate_left
                · (intro w hSw; (try dsimp only at hSw); go_simp; try with_reducible rfl)
                try simp only [Act.put, List.getElem_toArray, List.getElem_cons_zero, List.getElem_cons_succ, List.setIfInBounds_toArray, List.set_cons_zero, List.set_cons_succ]
                refine wpAnyH_take (i := 3) (oi := _) (v := ?_) rfl (by kernel_rfl) (by kernel_rfl) (by kernel_rfl) (fun _ _ _ h => h) (Or.inl ⟨by rfl, ?_⟩) (by assumption) ?_
                rotate_left
                · (intro w hSw; (try dsimp only at hSw); go_simp; try with_reducible rfl)
                try simp only [Act.put, List.getElem_toArray, List.getElem_cons_zero, List.getElem_cons_succ, List.setIfInBounds_toArray, List.set_cons_zero, List.set_cons_succ]
                refine wpAnyH_take (i := 4) (oi := _) (v := ?_) rfl (by kernel_rfl) (by kernel_rfl) (by kernel_rfl) (fun _ _ _ h => h) (Or.inl ⟨by rfl, ?_⟩) (by assumption) ?_
                rotate_left
                · (intro w hSw; (try dsimp only at hSw); go_simp; try with_reducible rfl)
                try simp only [Act.put, List.getElem_toArray, List.getElem_cons_zero, List.getElem_cons_succ, List.setIfInBounds_toArray, List.set_cons_zero, List.set_cons_succ]
                refine wpAnyH_ready (rs := [5]) (by kernel_rfl) (by simp) ?_
                refine AllReadyH.cons (o := _) rfl (fun K hK => ?_) AllReadyH.nil
                go_simp
                go_at_call 16
                refine HST7.out.mono ?_
                rintro e w8 ⟨rfl, rfl⟩
                refine hK.out _ _ hHeld (fun hHeld2 => ?_)
                clear hK K
                try simp only [Act.put, List.getElem_toArray, List.getElem_cons_zero, List.getElem_cons_succ, List.setIfInBounds_toArray, List.set_cons_zero, List.set_cons_succ]
                refine wpAnyH_take (i := 6) (oi := _) (v := ?_) rfl (by kernel_rfl) (by kernel_rfl) (by kernel_rfl) (fun _ _ _ h => h) (Or.inl ⟨by rfl, ?_⟩) (by assumption) ?_
                rotate_left
                · (intro w hSw; (try dsimp only at hSw); go_simp; try with_reducible rfl)
                try simp only [Act.put, List.getElem_toArray, List.getElem_cons_zero, List.getElem_cons_succ, List.setIfInBounds_toArray, List.set_cons_zero, List.set_cons_succ]
                refine wpAnyH_take (i := 7) (oi := _) (v := ?_) rfl (by kernel_rfl) (by kernel_rfl) (by kernel_rfl) (fun _ _ _ h => h) (Or.inl ⟨by rfl, ?_⟩) (by assumption) ?_
                rotate_left
                · (intro w hSw; (try dsimp only at hSw); go_simp; try with_reducible rfl)
                try simp only [Act.put, List.getElem_toArray, List.getElem_cons_zero, List.getElem_cons_succ, List.setIfInBounds_toArray, List.set_cons_zero, List.set_cons_succ]
                refine wpAnyH_take (i := 8) (oi := _) (v := ?_) rfl (by kernel_rfl) (by kernel_rfl) (by kernel_rfl) (fun _ _ _ h => h) (Or.inl ⟨by rfl, ?_⟩) (by assumption) ?_
                rotate_left
                · (intro w hSw; (try dsimp only at hSw); go_simp; try with_reducible rfl)
                try simp only [Act.put, List.getElem_toArray, List.getElem_cons_zero, List.getElem_cons_succ, List.setIfInBounds_toArray, List.set_cons_zero, List.set_cons_succ]
                refine wpAnyH_take (i := 9) (oi := _) (v := ?_) rfl (by kernel_rfl) (by kernel_rfl) (by kernel_rfl) (fun _ _ _ h => h) (Or.inl ⟨by rfl, ?_⟩) (by assumption) ?_
                rotate_left
                · (intro w hSw; (try dsimp only at hSw); go_simp; try with_reducible rfl)
                try simp only [Act.put, List.getElem_toArray, List.getElem_cons_zero, List.getElem_cons_succ, List.setIfInBounds_toArray, List.set_cons_zero, List.set_cons_succ]
                refine wpAnyH_take (i := 10) (oi := _) (v := ?_) rfl (by kernel_rfl) (by kernel_rfl) (by kernel_rfl) (fun _ _ _ h => h) (Or.inl ⟨by rfl, ?_⟩) (by assumption) ?_
                rotate_left
                · (intro w hSw; (try dsimp only at hSw); go_simp; try with_reducible rfl)
                try simp only [Act.put, List.getElem_toArray, List.getElem_cons_zero, List.getElem_cons_succ, List.setIfInBounds_toArray, List.set_cons_zero, List.set_cons_succ]
                refine wpAnyH_take (i := 11) (oi := _) (v := ?_) rfl (by kernel_rfl) (by kernel_rfl) (by kernel_rfl) (fun _ _ _ h => h) (Or.inl ⟨by rfl, ?_⟩) (by assumption) ?_
                rotate_left
                · (intro w hSw; (try dsimp only at hSw); go_simp; try with_reducible rfl)
                try simp only [Act.put, List.getElem_toArray, List.getElem_cons_zero, List.getElem_cons_succ, List.setIfInBounds_toArray, List.set_cons_zero, List.set_cons_succ]
                refine wpAnyH_take (i := 12) (oi := _) (v := ?_) rfl (by kernel_rfl) (by kernel_rfl) (by kernel_rfl) (fun _ _ _ h => h) (Or.inl ⟨by rfl, ?_⟩) (by assumption) ?_
                rotate_left
                · (intro w hSw; (try dsimp only at hSw); go_simp; try with_reducible rfl)
                try simp only [Act.put, List.getElem_toArray, List.getElem_cons_zero, List.getElem_cons_succ, List.setIfInBounds_toArray, List.set_cons_zero, List.set_cons_succ]
                refine wpAnyH_take (i := 13) (oi := _) (v := ?_) rfl (by kernel_rfl) (by kernel_rfl) (by kernel_rfl) (fun _ _ _ h => h) (Or.inl ⟨by rfl, ?_⟩) (by assumption) ?_
                rotate_left
                · (intro w hSw; (try dsimp only at hSw); go_simp; try with_reducible rfl)
                try simp only [Act.put, List.getElem_toArray, List.getElem_cons_zero, List.getElem_cons_succ, List.setIfInBounds_toArray, List.set_cons_zero, List.set_cons_succ]
                refine wpAnyH_take (i := 14) (oi := _) (v := ?_) rfl (by kernel_rfl) (by kernel_rfl) (by kernel_rfl) (fun _ _ _ h => h) (Or.inl ⟨by rfl, ?_⟩) (by assumption) ?_
                rotate_left
                · (intro w hSw; (try dsimp only at hSw); go_simp; try with_reducible rfl)
                try simp only [Act.put, List.getElem_toArray, List.getElem_cons_zero, List.getElem_cons_succ, List.setIfInBounds_toArray, List.set_cons_zero, List.set_cons_succ]
                refine wpAnyH_take (i := 15) (oi := _) (v := ?_) rfl (by kernel_rfl) (by kernel_rfl) (by kernel_rfl) (fun _ _ _ h => h) (Or.inl ⟨by rfl, ?_⟩) (by assumption) ?_
                rotate_left
                · (intro w hSw; (try dsimp only at hSw); go_simp; try with_reducible rfl)
                try simp only [Act.put, List.getElem_toArray, List.getElem_cons_zero, List.getElem_cons_succ, List.setIfInBounds_toArray, List.set_cons_zero, List.set_cons_succ]
                refine wpAnyH_take (i := 16) (oi := _) (v := ?_) rfl (by kernel_rfl) (by kernel_rfl) (by kernel_rfl) (fun _ _ _ h => h) (Or.inl ⟨by rfl, ?_⟩) (by assumption) ?_
                rotate_left
                · (intro w hSw; (try dsimp only at hSw); go_simp; try with_reducible rfl)
                try simp only [Act.put, List.getElem_toArray, List.getElem_cons_zero, List.getElem_cons_succ, List.setIfInBounds_toArray, List.set_cons_zero, List.set_cons_succ]
                refine wpAnyH_take (i := 17) (oi := _) (v := ?_) rfl (by kernel_rfl) (by kernel_rfl) (by kernel_rfl) (fun _ _ _ h => h) (Or.inl ⟨by rfl, ?_⟩) (by assumption) ?_
                rotate_left
                · (intro w hSw; (try dsimp only at hSw); go_simp; try with_reducible rfl)
                try simp only [Act.put, List.getElem_toArray, List.getElem_cons_zero, List.getElem_cons_succ, List.setIfInBounds_toArray, List.set_cons_zero, List.set_cons_succ]
                refine wpAnyH_take (i := 19) (oi := _) (v := ?_) rfl (by kernel_rfl) (by kernel_rfl) (by kernel_rfl) (fun _ _ _ h => h) (Or.inl ⟨by rfl, ?_⟩) (by assumption) ?_
                rotate_left
                · (intro w hSw; (try dsimp only at hSw); go_simp; try with_reducible rfl)
                try simp only [Act.put, List.getElem_toArray, List.getElem_cons_zero, List.getElem_cons_succ, List.setIfInBounds_toArray, List.set_cons_zero, List.set_cons_succ]
                refine wpAnyH_take (i := 20) (oi := _) (v := ?_) rfl (by kernel_rfl) (by kernel_rfl) (by kernel_rfl) (fun _ _ _ h => h) (Or.inl ⟨by rfl, ?_⟩) (by assumption) ?_
                rotate_left
                · (intro w hSw; (try dsimp only at hSw); go_simp; try with_reducible rfl)
                try simp only [Act.put, List.getElem_toArray, List.getElem_cons_zero, List.getElem_cons_succ, List.setIfInBounds_toArray, List.set_cons_zero, List.set_cons_succ]
                refine wpAnyH_take (i := 24) (oi := _) (v := ?_) rfl (by kernel_rfl) (by kernel_rfl) (by kernel_rfl) (fun _ _ _ h => h) (Or.inl ⟨by rfl, ?_⟩) (by assumption) ?_
                rotate_left
                · (intro w hSw; (try dsimp only at hSw); go_simp; try with_reducible rfl)
                try simp only [Act.put, List.getElem_toArray, List.getElem_cons_zero, List.getElem_cons_succ, List.setIfInBounds_toArray, List.set_cons_zero, List.set_cons_succ]
                refine wpAnyH_take (i := 25) (oi := _) (v := ?_) rfl (by kernel_rfl) (by kernel_rfl) (by kernel_rfl) (fun _ _ _ h => h) (Or.inl ⟨by rfl, ?_⟩) (by assumption) ?_
                rotate_left
                · (intro w hSw; (try dsimp only at hSw); go_simp; try with_reducible rfl)
                try simp only [Act.put, List.getElem_toArray, List.getElem_cons_zero, List.getElem_cons_succ, List.setIfInBounds_toArray, List.set_cons_zero, List.set_cons_succ]
                refine wpAnyH_take (i := 26) (oi := _) (v := ?_) rfl (by kernel_rfl) (by kernel_rfl) (by kernel_rfl) (fun _ _ _ h => h) (Or.inl ⟨by rfl, ?_⟩) (by assumption) ?_
                rotate_left
                · (intro w hSw; (try dsimp only at hSw); go_simp; try with_reducible rfl)
                try simp only [Act.put, List.getElem_toArray, List.getElem_cons_zero, List.getElem_cons_succ, List.setIfInBounds_toArray, List.set_cons_zero, List.set_cons_succ]
                refine wpAnyH_ready (rs := [18]) (by kernel_rfl) (by simp) ?_
                refine AllReadyH.cons (o := _) rfl (fun K hK => ?_) AllReadyH.nil
                go_simp
                go_at_call 19
                refine (HBK7.out w7.drew (Below.refl w7.heap.size w7).drew).mono ?_
                rintro e w9 ⟨r9, rfl, hb9, ho9⟩
                have HB9 := Lib.hid hb9
                have HX9 := Lib.hid ((HX7.out.below (Below.refl w7.heap.size w7).drew).below hb9)
                obtain ⟨m0, m1, m2, ml⟩ := HX9.out.cells2
                obtain ⟨n0, n1, n2, nl⟩ := HX9.out.cells
                rw [HSV.out] at n1
                obtain ⟨p9, cap9, e9⟩ := ho9.form
                rw [HLS.out] at e9
                subst e9
                obtain ⟨g9, q9, b90, b91, b92, b93, _⟩ := OwnsB.at ho9 HIS.out
                subst q9
                rw [HBS.out] at b92
                clear hb9 ho9
                refine hK.out _ _ ⟨m1, n1, n2⟩ (fun hHeld2 => ?_)
                clear hK K
                try simp only [Act.put, List.getElem_toArray, List.getElem_cons_zero, List.getElem_cons_succ, List.setIfInBounds_toArray, List.set_cons_zero, List.set_cons_succ]
                clear hHeld hHeld2
                refine wpAnyH_strong (S1 := (fun w' => w'.cell? ⟨wr.heap.size, 1, none⟩ = some (.int .i64 i) ∧ w'.cell? ⟨bb, 1, none⟩ = some (.int .i64 (t1.bs[i].may - t1.bs[i].ld)) ∧ w'.cell? ⟨bb, 2, none⟩ = some (.int .i64 t1.bs[i].ld) ∧ w'.cell? ⟨g9, i * 3 + 2, none⟩ = some (.int .i64 (t1.bs[i].ld + 1)))) (fun w' h => ⟨h.1, h.2.1, h.2.2.1⟩) _ _ _ _ ?_
                have hHeld : (w9.cell? ⟨wr.heap.size, 1, none⟩ = some (.int .i64 i) ∧ w9.cell? ⟨bb, 1, none⟩ = some (.int .i64 (t1.bs[i].may - t1.bs[i].ld)) ∧ w9.cell? ⟨bb, 2, none⟩ = some (.int .i64 t1.bs[i].ld) ∧ w9.cell? ⟨g9, i * 3 + 2, none⟩ = some (.int .i64 (t1.bs[i].ld + 1))) := ⟨m1, n1, n2, b92⟩
                refine wpAnyH_take (i := 21) (oi := _) (v := ?_) rfl (by kernel_rfl) (by kernel_rfl) (by kernel_rfl) (fun _ _ _ h => h) (Or.inl ⟨by rfl, ?_⟩) (by assumption) ?_
                rotate_left
                · (intro w hSw; (try dsimp only at hSw); go_simp; try with_reducible rfl)
                try simp only [Act.put, List.getElem_toArray, List.getElem_cons_zero, List.getElem_cons_succ, List.setIfInBounds_toArray, List.set_cons_zero, List.set_cons_succ]
                refine wpAnyH_take (i := 22) (oi := _) (v := ?_) rfl (by kernel_rfl) (by kernel_rfl) (by kernel_rfl) (fun _ _ _ h => h) (Or.inl ⟨by rfl, ?_⟩) (by assumption) ?_
                rotate_left
                · (intro w hSw; (try dsimp only at hSw); go_simp; try with_reducible rfl)
                try simp only [Act.put, List.getElem_toArray, List.getElem_cons_zero, List.getElem_cons_succ, List.setIfInBounds_toArray, List.set_cons_zero, List.set_cons_succ]
                refine wpAnyH_take (i := 23) (oi := _) (v := ?_) rfl (by kernel_rfl) (by kernel_rfl) (by kernel_rfl) (fun _ _ _ h => h) (Or.inl ⟨by rfl, ?_⟩) (by assumption) ?_
                rotate_left
                · (intro w hSw; (try dsimp only at hSw); go_simp; try with_reducible rfl)
                try simp only [Act.put, List.getElem_toArray, List.getElem_cons_zero, List.getElem_cons_succ, List.setIfInBounds_toArray, List.set_cons_zero, List.set_cons_succ]
                refine wpAnyH_take (i := 27) (oi := _) (v := ?_) rfl (by kernel_rfl) (by kernel_rfl) (by kernel_rfl) (fun _ _ _ h => h) (Or.inl ⟨by rfl, ?_⟩) (by assumption) ?_
                rotate_left
                · (intro w hSw; (try dsimp only at hSw); go_simp; try with_reducible rfl)
                try simp only [Act.put, List.getElem_toArray, List.getElem_cons_zero, List.getElem_cons_succ, List.setIfInBounds_toArray, List.set_cons_zero, List.set_cons_succ]
                refine wpAnyH_take (i := 28) (oi := _) (v := ?_) rfl (by kernel_rfl) (by kernel_rfl) (by kernel_rfl) (fun _ _ _ h => h) (Or.inl ⟨by rfl, ?_⟩) (by assumption) ?_
                rotate_left
                · (intro w hSw; (try dsimp only at hSw); go_simp; try with_reducible rfl)
                try simp only [Act.put, List.getElem_toArray, List.getElem_cons_zero, List.getElem_cons_succ, List.setIfInBounds_toArray, List.set_cons_zero, List.set_cons_succ]
                refine wpAnyH_take (i := 29) (oi := _) (v := ?_) rfl (by kernel_rfl) (by kernel_rfl) (by kernel_rfl) (fun _ _ _ h => h) (Or.inl ⟨by rfl, ?_⟩) (by assumption) ?_
                rotate_left
                · (intro w hSw; (try dsimp only at hSw); go_simp; try with_reducible rfl)
                try simp only [Act.put, List.getElem_toArray, List.getElem_cons_zero, List.getElem_cons_succ, List.setIfInBounds_toArray, List.set_cons_zero, List.set_cons_succ]
                refine wpAnyH_done (by kernel_rfl) ?_ _
                all_goals
                  go_wp2_with fail
                  go_roundg (l.length - (k + 1))
                  case measure => have := HKQ.out; omega
                  case rel => exact ⟨k + 1, _, _, rfl, by omega, by go_num, Lib.hid (by first | exact HX9.out.unbox | exact (HX9.out.below (Below.refl _ _).drew).unbox), Lib.hid (by have := HS2.out; rw [HTK1.out, HTK1.out, HTK.out] at this; exact this), Lib.hid (by have := HR2.out; rw [HTK1.out, HTK.out] at this; exact this), Lib.hid (by have := HF2.out; rw [HTK1.out, HTK.out] at this; exact this), Lib.hid (by have := HN2.out; rw [HTK1.out, HTK.out] at this; exact this)⟩
            · have HTK : Hid (t1.takeF i = (t1, 5)) := Lib.hid (by unfold PS.takeF; rw [hg1]; simp only [if_neg (show ¬ [(2 : Int)].contains t1.bs[i].st = true by simpa using hst)])
              have HSV : Hid (t1.bs[i].slots = 0) := Lib.hid (by rw [HSL.out, if_neg hst])
              go_wp2_with fail
              refine (two_take HX5.out HR.out (by omega) i).mono ?_
              rw [HTK.out]
              rintro e w6 ⟨rfl, h6⟩
              have HX6 := Lib.hid h6
              obtain ⟨d0, d1, d2, dl⟩ := h6.cells2
              clear h6
              go_wp2_with fail
              refine (two_rtake HX6.out HRT2.out (by omega) i).mono ?_
              rintro e w7 ⟨rfl, h7⟩
              have HX7 := Lib.hid h7
              obtain ⟨e0, e1, e2, el⟩ := (h7.below (Below.refl _ _).drew).cells2
              obtain ⟨f0, f1, f2, fl⟩ := (h7.below (Below.refl _ _).drew).cells
              obtain ⟨ee0, ee1, ee2, eel⟩ := h7.cells2
              obtain ⟨ff0, ff1, ff2, ffl⟩ := h7.cells
              clear h7
              rw [HSV.out] at f1 ff1
              have HST7 : Hid (∀ n, Calls Try.prog 16 #[.pointer (some ⟨pb, 0, none⟩), .int .i64 i] (w7.drewN n) fun e w'' => e = .returned (.int .i64 t1.bs[i].st) ∧ ∃ m, w'' = w7.drewN m) := Lib.hid (fun n => (two_state (HX7.out.below (below_drewN w7 n)) i).mono (fun e w'' ⟨he, hw⟩ => ⟨by rw [he, HSI.out], n, hw.symm⟩))
              have hst2 : (t1.bs[i].st == 2) = false := by simpa using hst
              have hst3 : decide (t1.bs[i].st = 2) = false := decide_eq_false hst
              go_wp2_with fail
              go_quiet ((go_at_call 16; exact HST7.out _))
              all_goals
                go_wp2_with fail
                go_roundg (l.length - (k + 1))
                case measure => have := HKQ.out; omega
                case rel => exact ⟨k + 1, _, _, rfl, by omega, by go_num, Lib.hid (by first | exact HX7.out.unbox | exact (HX7.out.below (Below.refl _ _).drew).unbox | exact (HX7.out.below (below_drewN w7 _)).unbox), Lib.hid (by have := HS2.out; rw [HTK1.out, HTK1.out, HTK.out] at this; exact this), Lib.hid (by have := HR2.out; rw [HTK1.out, HTK.out] at this; exact this), Lib.hid (by have := HF2.out; rw [HTK1.out, HTK.out] at this; exact this), Lib.hid (by have := HN2.out; rw [HTK1.out, HTK.out] at this; exact this)⟩
        · have q2 : oi < 0 ∨ 3 ≤ oi := by omega
          clear q
          generalize t1.opF ⟨5, oi, on⟩ = t1' at *
          generalize t2.opF ⟨5, oi, on⟩ = t2' at *
          rcases q2 with q2 | q2
          · have q3 : decide (0 ≤ oi) = false := by simp; omega
            go_wp2_with fail
            refine (two_backs HX.out HR.out).mono ?_
            rintro e wa ⟨ra, rfl, hba, hoa⟩
            obtain ⟨pa, capa, ea⟩ := hoa.form
            rw [HN3.out] at ea
            subst ea
            obtain ⟨u0, u1, u2, ul⟩ := (HX.out.below hba).cells
            have HBA : Hid (Below wr.heap.size wr wa) := Lib.hid (below_then (below_al (Below.refl _ _) _) hba)
            clear hba hoa
            go_wp2_with fail
            refine (HPL.out _ HBA.out).mono ?_
            rintro e w3 ⟨rfl, ht3⟩
            have HT3 := Lib.hid ht3
            clear ht3
            go_wp2_with fail
            refine (two_backs HT3.out HR2.out).mono ?_
            rintro e w4 ⟨r4, rfl, hb4, ho4⟩
            have HT4 := Lib.hid (HT3.out.below hb4)
            have HO4 := Lib.hid ho4
            clear hb4 ho4
            obtain ⟨p4, cap4, e4⟩ := HO4.out.form
            rw [HN2.out] at e4
            subst e4
            go_wp2_with fail
            go_loopw [12] (fun i wr2 => ∃ m : Nat, m ≤ 3 ∧ i = .int .i64 m ∧ Hid (wr2 = w4)) (fun i _ => 3 - (intOf i).toNat)
            case atStart => exact ⟨0, by omega, rfl, Lib.hid rfl⟩
            case round =>
              obtain ⟨m, hm, rfl, HWR⟩ := hrel
              have hwr := HWR.out
              subst hwr
              by_cases hlt2 : m < 3
              · have hj1 : m < t1'.bs.length := by rw [HN2.out]; exact hlt2
                obtain ⟨g4, q4, a0, a1, a2, a3, _⟩ := OwnsB.at HO4.out hj1
                subst q4
                have hsl : 0 ≤ t1'.bs[m].slots := by unfold Bk.slots; split <;> omega
                have hld : 0 ≤ t1'.bs[m].ld := (HR2.out.good.bs _ (List.getElem_mem hj1)).ld
                have HST : Hid (t1'.stateF m = t1'.bs[m].st) := Lib.hid (state_at hj1)
                by_cases hu : t1'.bs[m].up = true
                · have hst : t1'.bs[m].st = 2 := by unfold Bk.up at hu; rw [Bool.and_eq_true] at hu; exact of_decide_eq_true hu.1
                  have HS4 := Lib.hid (two_state HT4.out (m : Int))
                  rw [HST.out, hst] at HS4
                  rw [hu] at a0
                  clear HST hst hu
                  generalize t1'.bs[m].slots = SL at *
                  generalize t1'.bs[m].ld = LD at *
                  clear hj1
                  go_wp2_with fail
                  refine HS4.out.mono ?_
                  rintro e wa ⟨rfl, rfl⟩
                  go_wp2_with fail
                  go_roundw
                  case rel => exact ⟨m + 1, by omega, by go_num, (by first | exact Lib.hid rfl | exact Lib.hid trivial)⟩
                  case measure => simp [intOf] <;> omega
                · have hu2 : t1'.bs[m].up = false := by simpa using hu
                  rw [hu2] at a0
                  clear HST hu hu2
                  generalize t1'.bs[m].slots = SL at *
                  generalize t1'.bs[m].ld = LD at *
                  clear hj1
                  go_wp2_with fail
                  go_roundw
                  case rel => exact ⟨m + 1, by omega, by go_num, (by first | exact Lib.hid rfl | exact Lib.hid trivial)⟩
                  case measure => simp [intOf] <;> omega
              · obtain rfl : m = 3 := by omega
                go_wp2_with fail
                go_roundg (l.length - (k + 1))
                case measure => have := HKQ.out; omega
                case rel => exact ⟨k + 1, _, _, rfl, by omega, by go_num, HT4, HS2, HR2, HF2, HN2⟩
          · have q3 : decide (0 ≤ oi) = true := by simp; omega
            have q4 : decide (oi < 3) = false := by simp; omega
            go_wp2_with fail
            refine (two_backs HX.out HR.out).mono ?_
            rintro e wa ⟨ra, rfl, hba, hoa⟩
            obtain ⟨pa, capa, ea⟩ := hoa.form
            rw [HN3.out] at ea
            subst ea
            obtain ⟨u0, u1, u2, ul⟩ := (HX.out.below hba).cells
            have HBA : Hid (Below wr.heap.size wr wa) := Lib.hid (below_then (below_al (Below.refl _ _) _) hba)
            clear hba hoa
            go_wp2_with fail
            refine (HPL.out _ HBA.out).mono ?_
            rintro e w3 ⟨rfl, ht3⟩
            have HT3 := Lib.hid ht3
            clear ht3
            go_wp2_with fail
            refine (two_backs HT3.out HR2.out).mono ?_
            rintro e w4 ⟨r4, rfl, hb4, ho4⟩
            have HT4 := Lib.hid (HT3.out.below hb4)
            have HO4 := Lib.hid ho4
            clear hb4 ho4
            obtain ⟨p4, cap4, e4⟩ := HO4.out.form
            rw [HN2.out] at e4
            subst e4
            go_wp2_with fail
            go_loopw [12] (fun i wr2 => ∃ m : Nat, m ≤ 3 ∧ i = .int .i64 m ∧ Hid (wr2 = w4)) (fun i _ => 3 - (intOf i).toNat)
            case atStart => exact ⟨0, by omega, rfl, Lib.hid rfl⟩
            case round =>
              obtain ⟨m, hm, rfl, HWR⟩ := hrel
              have hwr := HWR.out
              subst hwr
              by_cases hlt2 : m < 3
              · have hj1 : m < t1'.bs.length := by rw [HN2.out]; exact hlt2
                obtain ⟨g4, q4, a0, a1, a2, a3, _⟩ := OwnsB.at HO4.out hj1
                subst q4
                have hsl : 0 ≤ t1'.bs[m].slots := by unfold Bk.slots; split <;> omega
                have hld : 0 ≤ t1'.bs[m].ld := (HR2.out.good.bs _ (List.getElem_mem hj1)).ld
                have HST : Hid (t1'.stateF m = t1'.bs[m].st) := Lib.hid (state_at hj1)
                by_cases hu : t1'.bs[m].up = true
                · have hst : t1'.bs[m].st = 2 := by unfold Bk.up at hu; rw [Bool.and_eq_true] at hu; exact of_decide_eq_true hu.1
                  have HS4 := Lib.hid (two_state HT4.out (m : Int))
                  rw [HST.out, hst] at HS4
                  rw [hu] at a0
                  clear HST hst hu
                  generalize t1'.bs[m].slots = SL at *
                  generalize t1'.bs[m].ld = LD at *
                  clear hj1
                  go_wp2_with fail
                  refine HS4.out.mono ?_
                  rintro e wa ⟨rfl, rfl⟩
                  go_wp2_with fail
                  go_roundw
                  case rel => exact ⟨m + 1, by omega, by go_num, (by first | exact Lib.hid rfl | exact Lib.hid trivial)⟩
                  case measure => simp [intOf] <;> omega
                · have hu2 : t1'.bs[m].up = false := by simpa using hu
                  rw [hu2] at a0
                  clear HST hu hu2
                  generalize t1'.bs[m].slots = SL at *
                  generalize t1'.bs[m].ld = LD at *
                  clear hj1
                  go_wp2_with fail
                  go_roundw
                  case rel => exact ⟨m + 1, by omega, by go_num, (by first | exact Lib.hid rfl | exact Lib.hid trivial)⟩
                  case measure => simp [intOf] <;> omega
              · obtain rfl : m = 3 := by omega
                go_wp2_with fail
                go_roundg (l.length - (k + 1))
                case measure => have := HKQ.out; omega
                case rel => exact ⟨k + 1, _, _, rfl, by omega, by go_num, HT4, HS2, HR2, HF2, HN2⟩
      · have b5 : (ow == 5) = false := by simpa using q5
        generalize t1.opF ⟨ow, oi, on⟩ = t1' at *
        generalize t2.opF ⟨ow, oi, on⟩ = t2' at *
        go_wp2_with fail
        refine (HPL.out _ (below_al (Below.refl _ _) _)).mono ?_
        rintro e w3 ⟨rfl, ht3⟩
        have HT3 := Lib.hid ht3
        clear ht3
        go_wp2_with fail
        refine (two_backs HT3.out HR2.out).mono ?_
        rintro e w4 ⟨r4, rfl, hb4, ho4⟩
        have HT4 := Lib.hid (HT3.out.below hb4)
        have HO4 := Lib.hid ho4
        clear hb4 ho4
        obtain ⟨p4, cap4, e4⟩ := HO4.out.form
        rw [HN2.out] at e4
        subst e4
        go_wp2_with fail
        go_loopw [12] (fun i wr2 => ∃ m : Nat, m ≤ 3 ∧ i = .int .i64 m ∧ Hid (wr2 = w4)) (fun i _ => 3 - (intOf i).toNat)
        case atStart => exact ⟨0, by omega, rfl, Lib.hid rfl⟩
        case round =>
          obtain ⟨m, hm, rfl, HWR⟩ := hrel
          have hwr := HWR.out
          subst hwr
          by_cases hlt2 : m < 3
          · have hj1 : m < t1'.bs.length := by rw [HN2.out]; exact hlt2
            obtain ⟨g4, q4, a0, a1, a2, a3, _⟩ := OwnsB.at HO4.out hj1
            subst q4
            have hsl : 0 ≤ t1'.bs[m].slots := by unfold Bk.slots; split <;> omega
            have hld : 0 ≤ t1'.bs[m].ld := (HR2.out.good.bs _ (List.getElem_mem hj1)).ld
            have HST : Hid (t1'.stateF m = t1'.bs[m].st) := Lib.hid (state_at hj1)
            by_cases hu : t1'.bs[m].up = true
            · have hst : t1'.bs[m].st = 2 := by unfold Bk.up at hu; rw [Bool.and_eq_true] at hu; exact of_decide_eq_true hu.1
              have HS4 := Lib.hid (two_state HT4.out (m : Int))
              rw [HST.out, hst] at HS4
              rw [hu] at a0
              clear HST hst hu
              generalize t1'.bs[m].slots = SL at *
              generalize t1'.bs[m].ld = LD at *
              clear hj1
              go_wp2_with fail
              refine HS4.out.mono ?_
              rintro e wa ⟨rfl, rfl⟩
              go_wp2_with fail
              go_roundw
              case rel => exact ⟨m + 1, by omega, by go_num, (by first | exact Lib.hid rfl | exact Lib.hid trivial)⟩
              case measure => simp [intOf] <;> omega
            · have hu2 : t1'.bs[m].up = false := by simpa using hu
              rw [hu2] at a0
              clear HST hu hu2
              generalize t1'.bs[m].slots = SL at *
              generalize t1'.bs[m].ld = LD at *
              clear hj1
              go_wp2_with fail
              go_roundw
              case rel => exact ⟨m + 1, by omega, by go_num, (by first | exact Lib.hid rfl | exact Lib.hid trivial)⟩
              case measure => simp [intOf] <;> omega
          · obtain rfl : m = 3 := by omega
            go_wp2_with fail
            go_roundg (l.length - (k + 1))
            case measure => have := HKQ.out; omega
            case rel => exact ⟨k + 1, _, _, rfl, by omega, by go_num, HT4, HS2, HR2, HF2, HN2⟩
    · obtain rfl : k = l.length := by omega
      go_wp2_with fail
      refine (awake19_any _).mono ?_
      rintro e w12 ⟨rfl, hb⟩
      have HB12 := Lib.hid (below_then HT.out.below0 hb)
      clear hb
      go_wp2_with fail
      go_ret
      exact ⟨rfl, HB12.out⟩
end Go.Proofs.Ytilkfcpdeeaifaa
