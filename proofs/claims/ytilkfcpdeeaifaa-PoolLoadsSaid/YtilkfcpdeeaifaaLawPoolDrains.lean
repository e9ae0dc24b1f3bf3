/- The walks of the laws' awake, and of PoolDrains: a backend drains as long as it has load. -/
import Derived.Test.YtilkfcpdeeaifaaPoolOne
set_option linter.unusedVariables false
set_option linter.unusedSimpArgs false
set_option linter.unusedSectionVars false
namespace Go.Proofs.Ytilkfcpdeeaifaa
open Go.RowKit Go.Sort
set_option maxHeartbeats 1000000 in
set_option maxRecDepth 100000 in
theorem awake19_any (w : World) : Calls Try.prog 12 #[] w fun e w' => e = .returned (.bool true) ∧ Below w.heap.size w w' := by
  have HNEW := Lib.hid (fun w1 (hb : Below w.heap.size w w1) => own_pnew (w0 := w) 1 1 1 0 1 1 (by decide) (by decide) (by decide) (by decide) (by decide) (by decide) (by decide) hb)
  go_enter Try.func12, Try.ntmps12
  go_wp2_with fail
  refine (HNEW.out _ (Below.refl _ _)).mono ?_
  rintro e w1 ⟨B, pb, wb, wm, gl, v, s, rfl, ho, hn⟩
  have H1 := Lib.hid (one_new hn (by decide) (by decide) (by decide) (by decide))
  obtain ⟨t2, h2⟩ := one_tick_due H1.out
  have H2 := Lib.hid h2
  have HT := Lib.hid (own_ptick ho H1.out.run (by decide))
  simp only [t2, List.length_singleton] at HT
  have HS := Lib.hid (one_state h2)
  clear ho hn t2 h2
  go_wp2_with fail
  refine HT.out.mono ?_
  rintro e w2 ⟨p, c, rfl, ho2, _⟩
  have HO2 := Lib.hid ho2
  have HST := Lib.hid (own_state ho2 0)
  rw [HS.out] at HST
  clear ho2
  go_wp2_with fail
  refine HST.out.mono ?_
  rintro e w3 ⟨rfl, rfl⟩
  go_wp2_with fail
  go_ret
  exact ⟨rfl, HO2.out.below0⟩
set_option maxHeartbeats 4000000 in
set_option maxRecDepth 100000 in
theorem poolDrains_walk (af : Int) (w : World) (haf : (Lit.int .u8 af).wf = true) :
    Calls Try.prog 4 #[.int .u8 af] w fun e w' => e = .returned (.bool true) ∧ Below w.heap.size w w' := by
  obtain ⟨y0, y1⟩ := bounds_u8 haf
  have hm1 : af.tmod 20 = af % 20 := Int.tmod_eq_emod_of_nonneg y0
  obtain ⟨M, hM⟩ : ∃ M : Nat, af % 20 = (M : Int) := ⟨(af % 20).toNat, by omega⟩
  have hM2 : M < 20 := by omega
  rw [hM] at hm1
  clear haf
  have HNEW := Lib.hid (fun w1 (hb : Below w.heap.size w w1) => own_pnew (w0 := w) 1 1 1 0 1 1 (by decide) (by decide) (by decide) (by decide) (by decide) (by decide) (by decide) hb)
  go_enter Try.func4, Try.ntmps4
  go_wp2_with fail
  refine (HNEW.out _ (Below.refl _ _)).mono ?_
  rintro e w1 ⟨B, pb, wb, wm, gl, v, s, rfl, ho, hn⟩
  have H1 := Lib.hid (one_new hn (by decide) (by decide) (by decide) (by decide))
  obtain ⟨t2, h2⟩ := one_tick_due H1.out
  have H2 := Lib.hid h2
  have HT := Lib.hid (own_ptick ho H1.out.run (by decide))
  clear ho hn t2 h2
  go_wp2_with fail
  refine HT.out.mono ?_
  rintro e w2 ⟨p, c, rfl, ho2, _⟩
  obtain ⟨t3, h3⟩ := one_opened H2.out
  have H3 := Lib.hid h3
  have HOP := Lib.hid (own_opened ho2 H2.out.run (by decide) 0)
  rw [t3] at HOP
  clear ho2 t3 h3 HT
  go_wp2_with fail
  refine HOP.out.mono ?_
  rintro e w3 ⟨rfl, ho3⟩
  obtain ⟨t4, h4⟩ := one_limit (k := 50) H3.out (by decide) (by decide)
  have H4 := Lib.hid h4
  have HLI := Lib.hid (own_limit ho3 H3.out.run (by decide) 0 50)
  rw [t4] at HLI
  clear ho3 t4 h4 HOP
  go_wp2_with fail
  refine HLI.out.mono ?_
  rintro e w4 ⟨rfl, ho4⟩
  have HO4 := Lib.hid ho4
  clear ho4 HLI
  generalize (((s.tickF.1.openedF 0).1).limitF 0 50).1 = s4 at *
  go_wp2_with fail
  go_loopw [6] (fun i wr => ∃ (k : Nat) (sk : PS), k ≤ M ∧ i = .int .i64 k ∧ Hid (OneS 1 1 (10 + k) 2 k 50 1 none sk) ∧ Hid (POwn w B pb wb wm gl v sk wr)) (fun i _ => M - (intOf i).toNat)
  case atStart => exact ⟨0, s4, by omega, rfl, Lib.hid (H4.out.mono (by decide)), HO4⟩
  case round =>
    obtain ⟨k, sk, hk, rfl, HK, HO⟩ := hrel
    by_cases hlt : k < M
    · obtain ⟨t5, h5⟩ := one_take HK.out (by omega)
      have H5 := Lib.hid h5
      have HTA := Lib.hid (own_take HO.out HK.out.run (by omega) 0)
      rw [t5] at HTA
      clear t5 h5
      go_wp2_with fail
      refine HTA.out.mono ?_
      rintro e w5 ⟨rfl, ho5⟩
      have HO5 := Lib.hid ho5
      clear ho5
      go_wp2_with fail
      go_roundw
      case rel => exact ⟨k + 1, _, by omega, by go_num, Lib.hid (H5.out.mono (by omega)), HO5⟩
      case measure => simp [intOf]; omega
    · obtain rfl : k = M := by omega
      by_cases h0 : 0 < k
      · have h0i : 0 < (k : Int) := by omega
        obtain ⟨t6, h6⟩ := one_drain_more HK.out h0i
        have H6 := Lib.hid h6
        have HDR := Lib.hid (own_drain HO.out HK.out.run (by omega) 0)
        rw [t6] at HDR
        clear t6 h6
        go_wp2_with fail
        refine HDR.out.mono ?_
        rintro e w6 ⟨rfl, ho6⟩
        obtain ⟨t7, h7⟩ := one_take_no H6.out (by decide)
        have HTA := Lib.hid (own_take ho6 H6.out.run (by omega) 0)
        rw [t7, h7] at HTA
        clear t7 h7 ho6 HDR
        go_wp2_with fail
        refine HTA.out.mono ?_
        rintro e w7 ⟨rfl, ho7⟩
        have HO7 := Lib.hid ho7
        clear ho7 HTA HO
        generalize (sk.drainF 0).1 = s6 at *
        go_wp2_with fail
        go_loopw [7] (fun i wr => ∃ (j : Nat) (sj : PS), j ≤ k ∧ i = .int .i64 j ∧ Hid (j < k → OneS 1 1 (20 + k + j) 3 ((k : Int) - j) 50 1 none sj) ∧ Hid (j = k → OneS 1 1 (20 + k + j) 0 0 50 1 (some 1) sj) ∧ Hid (POwn w B pb wb wm gl v sj wr)) (fun i _ => k - (intOf i).toNat)
        case atStart => exact ⟨0, s6, by omega, rfl, Lib.hid (fun _ => by have := H6.out.mono (K' := 20 + k + 0) (by omega); simpa using this), Lib.hid (fun h => by omega), HO7⟩
        case round =>
          obtain ⟨j, sj, hj, rfl, HJ1, HJ2, HO8⟩ := hrel
          by_cases hlt2 : j < k
          · have HJ := Lib.hid (HJ1.out hlt2)
            have HS := Lib.hid (own_state HO8.out 0)
            rw [one_state HJ.out] at HS
            go_wp2_with fail
            refine HS.out.mono ?_
            rintro e w8 ⟨rfl, rfl⟩
            by_cases hl : j + 1 < k
            · obtain ⟨t9, h9⟩ := one_put_more HJ.out (by omega)
              have H9 := Lib.hid h9
              have HPU := Lib.hid (own_put HO8.out HJ.out.run (by omega) 0)
              rw [t9] at HPU
              clear t9 h9
              go_wp2_with fail
              refine HPU.out.mono ?_
              rintro e w9 ⟨rfl, ho9⟩
              have HO9 := Lib.hid ho9
              clear ho9
              go_wp2_with fail
              go_roundw
              case rel => exact ⟨j + 1, _, by omega, by go_num, Lib.hid (fun _ => by have := H9.out; rw [show ((k : Int) - j - 1) = (k : Int) - ((j + 1 : Nat) : Int) by omega] at this; exact this.mono (by omega)), Lib.hid (fun h => by omega), HO9⟩
              case measure => simp [intOf]; omega
            · have hkj : (k : Int) - j = 1 := by omega
              have HJ' := Lib.hid HJ.out
              rw [hkj] at HJ'
              obtain ⟨t9, h9⟩ := one_put_last HJ'.out
              have H9 := Lib.hid h9
              have HPU := Lib.hid (own_put HO8.out HJ.out.run (by omega) 0)
              rw [t9] at HPU
              clear t9 h9
              go_wp2_with fail
              refine HPU.out.mono ?_
              rintro e w9 ⟨rfl, ho9⟩
              have HO9 := Lib.hid ho9
              clear ho9
              go_wp2_with fail
              go_roundw
              case rel => exact ⟨j + 1, _, by omega, by go_num, Lib.hid (fun h => by omega), Lib.hid (fun _ => H9.out.mono (by omega)), HO9⟩
              case measure => simp [intOf]; omega
          · obtain rfl : j = k := by omega
            have HJ := Lib.hid (HJ2.out rfl)
            obtain ⟨t10, h10⟩ := one_tick_due HJ.out
            have H10 := Lib.hid h10
            have HT := Lib.hid (own_ptick HO8.out HJ.out.run (by omega))
            simp only [t10, List.length_singleton] at HT
            have HS := Lib.hid (one_state h10)
            clear t10 h10
            go_wp2_with fail
            refine HT.out.mono ?_
            rintro e w10 ⟨p10, c10, rfl, ho10, hl10⟩
            obtain ⟨p', cap', hp', hc'⟩ := hl10.nums
            obtain ⟨g, hg, c0⟩ := hc' 0 (by simp)
            cases hp'
            subst hg
            have c00 : w10.cell? ⟨g, 0, none⟩ = some (.int .i64 0) := c0
            have HO10 := Lib.hid ho10
            have HST := Lib.hid (own_state ho10 0)
            rw [HS.out] at HST
            clear ho10 hc' c0 hl10
            go_wp2_with fail
            refine HST.out.mono ?_
            rintro e w11 ⟨rfl, rfl⟩
            go_wp2_with fail
            refine (awake19_any _).mono ?_
            rintro e w12 ⟨rfl, hb⟩
            have HB12 := Lib.hid (below_then HO10.out.below0 hb)
            clear hb
            go_wp2_with fail
            go_ret
            exact ⟨rfl, HB12.out⟩
      · have hk0 : k = 0 := by omega
        subst hk0
        have HK' : Hid (OneS 1 1 10 2 0 50 1 none sk) := Lib.hid HK.out
        obtain ⟨t6, h6⟩ := one_drain_last HK'.out
        have H6 := Lib.hid h6
        have HDR := Lib.hid (own_drain HO.out HK.out.run (by omega) 0)
        rw [t6] at HDR
        clear t6 h6
        go_wp2_with fail
        refine HDR.out.mono ?_
        rintro e w6 ⟨rfl, ho6⟩
        obtain ⟨t7, h7⟩ := one_take_no H6.out (by decide)
        have HTA := Lib.hid (own_take ho6 H6.out.run (by omega) 0)
        rw [t7, h7] at HTA
        clear t7 h7 ho6 HDR
        go_wp2_with fail
        refine HTA.out.mono ?_
        rintro e w7 ⟨rfl, ho7⟩
        have HO7 := Lib.hid ho7
        clear ho7 HTA HO
        generalize (sk.drainF 0).1 = s6 at *
        go_wp2_with fail
        go_loopw [7] (fun i wr => i = .int .i64 0 ∧ Hid (POwn w B pb wb wm gl v s6 wr)) (fun i _ => 0)
        case atStart => exact ⟨rfl, HO7⟩
        case round =>
          obtain ⟨rfl, HO8⟩ := hrel
          obtain ⟨t10, h10⟩ := one_tick_due H6.out
          have H10 := Lib.hid h10
          have HT := Lib.hid (own_ptick HO8.out H6.out.run (by omega))
          simp only [t10, List.length_singleton] at HT
          have HS := Lib.hid (one_state h10)
          clear t10 h10
          go_wp2_with fail
          refine HT.out.mono ?_
          rintro e w10 ⟨p10, c10, rfl, ho10, hl10⟩
          obtain ⟨p', cap', hp', hc'⟩ := hl10.nums
          obtain ⟨g, hg, c0⟩ := hc' 0 (by simp)
          cases hp'
          subst hg
          have c00 : w10.cell? ⟨g, 0, none⟩ = some (.int .i64 0) := c0
          have HO10 := Lib.hid ho10
          have HST := Lib.hid (own_state ho10 0)
          rw [HS.out] at HST
          clear ho10 hc' c0 hl10
          go_wp2_with fail
          refine HST.out.mono ?_
          rintro e w11 ⟨rfl, rfl⟩
          go_wp2_with fail
          refine (awake19_any _).mono ?_
          rintro e w12 ⟨rfl, hb⟩
          have HB12 := Lib.hid (below_then HO10.out.below0 hb)
          clear hb
          go_wp2_with fail
          go_ret
          exact ⟨rfl, HB12.out⟩
end Go.Proofs.Ytilkfcpdeeaifaa
