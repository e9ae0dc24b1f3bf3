/- The walk of PoolWaits: a backend that fails is dialled again when its wait is over, not earlier, not later. -/
import Derived.Test.YtilkfcpdeeaifaaLawPoolDrains
namespace Go.Proofs.Ytilkfcpdeeaifaa
open Go.RowKit Go.Sort
/-- Where the ticks of one wait stand: behind k - 1 of d. -/
def WaitI (f t : Int) (K : Nat) (nx : Int) (d k : Nat) (s : PS) : Prop :=
  (k ≤ d → OneS f t (K + k) 0 0 0 nx (some ((d : Int) + 1 - k)) s) ∧ (k = d + 1 → OneS f t (K + k) 1 0 0 nx none s) ∧ 1 ≤ k ∧ k ≤ d + 1
set_option maxHeartbeats 4000000 in
set_option maxRecDepth 100000 in
theorem poolWaits_walk (ar am at' ao : Int) (w : World) (har : (Lit.int .u8 ar).wf = true) (ham : (Lit.int .u8 am).wf = true) (hat : (Lit.int .u8 at').wf = true) (hao : (Lit.int .u8 ao).wf = true) :
    Calls Try.prog 3 #[.int .u8 ar, .int .u8 am, .int .u8 at', .int .u8 ao] w fun e w' => e = .returned (.bool true) ∧ Below w.heap.size w w' := by
  obtain ⟨r0, r1⟩ := bounds_u8 har
  obtain ⟨m0, m1⟩ := bounds_u8 ham
  obtain ⟨t0, t1⟩ := bounds_u8 hat
  obtain ⟨o0, o1⟩ := bounds_u8 hao
  have er : ar.tmod 8 = ar % 8 := Int.tmod_eq_emod_of_nonneg r0
  have em : am.tmod 60 = am % 60 := Int.tmod_eq_emod_of_nonneg m0
  have et : at'.tmod 8 = at' % 8 := Int.tmod_eq_emod_of_nonneg t0
  have eo : ao.tmod 8 = ao % 8 := Int.tmod_eq_emod_of_nonneg o0
  obtain ⟨f, hf1, hf2, hf3⟩ : ∃ f : Int, 1 + ar % 8 = f ∧ 1 ≤ f ∧ f ≤ 8 := ⟨_, rfl, by omega, by omega⟩
  obtain ⟨t, ht1, ht2, ht3⟩ : ∃ t : Int, f + am % 60 = t ∧ f ≤ t ∧ t ≤ 67 := ⟨_, rfl, by omega, by omega⟩
  obtain ⟨M, hM⟩ : ∃ M : Nat, at' % 8 = (M : Int) := ⟨(at' % 8).toNat, by omega⟩
  obtain ⟨O, hO⟩ : ∃ O : Nat, ao % 8 = (O : Int) := ⟨(ao % 8).toNat, by omega⟩
  have hM2 : M < 8 := by omega
  have hO2 : O < 8 := by omega
  have b1 : 0 ≤ ar % 8 := by omega
  have b2 : ar % 8 < 8 := by omega
  have b3 : 0 ≤ am % 60 := by omega
  have b4 : am % 60 < 60 := by omega
  rw [hM] at et
  rw [hO] at eo
  clear har ham hat hao hM hO
  generalize ar % 8 = qr at *
  generalize am % 60 = qm at *
  have HNEW := Lib.hid (fun w1 (hb : Below w.heap.size w w1) => own_pnew (w0 := w) 1 1 1 0 f t (by decide) (by decide) (by decide) (by decide) (by omega) (by omega) (by omega) hb)
  go_enter Try.func3, Try.ntmps3
  go_wp2_with fail
  try rw [hf1, ht1]
  refine (HNEW.out _ (Below.refl _ _)).mono ?_
  rintro e w1 ⟨B, pb, wb, wm, gl, v, s, rfl, ho, hn⟩
  have H1 := Lib.hid (one_new hn (by decide) (by decide) (by omega) (by omega))
  have HO1 := Lib.hid ho
  clear ho hn
  go_wp2_with fail
  try rw [hf1]
  go_loopw [13, 14, 15] (fun wt nx i wr => ∃ (k d : Nat) (n : Int) (sk : PS), k ≤ M ∧ i = .int .i64 k ∧ wt = .int .i64 d ∧ nx = .int .i64 n ∧ 1 ≤ d ∧ d ≤ 67 ∧ 1 ≤ n ∧ n ≤ 67 ∧ Hid (OneS f t (1 + k * 100) 0 0 0 n (some d) sk) ∧ Hid (POwn w B pb wb wm gl v sk wr)) (fun _ _ i _ => M - (intOf i).toNat)
  case atStart => exact ⟨0, 1, f, s, by omega, rfl, rfl, rfl, by omega, by omega, by omega, by omega, H1, HO1⟩
  case round =>
    obtain ⟨k, d, n, sk, hk, rfl, rfl, rfl, hd1, hd2, hn1, hn2, HK, HO⟩ := hrel
    by_cases hlt : k < M
    · go_wp2_with fail
      go_loopw [16] (fun i wr => ∃ (j : Nat) (sj : PS), i = .int .i64 j ∧ 1 ≤ j ∧ j ≤ d + 1 ∧ Hid (WaitI f t (k * 100) n d j sj) ∧ Hid (POwn w B pb wb wm gl v sj wr)) (fun i _ => d + 1 - (intOf i).toNat)
      case atStart => exact ⟨1, sk, rfl, by omega, by omega, Lib.hid ⟨fun _ => by have := HK.out.mono (K' := k * 100 + 1) (by omega); simpa using this, fun h => by omega, by omega, by omega⟩, HO⟩
      case round =>
        obtain ⟨j, sj, rfl, hj1, hj2, HJ, HOJ⟩ := hrel
        by_cases hlt2 : j ≤ d
        · have HJ1 := Lib.hid (HJ.out.1 hlt2)
          by_cases hje : j = d
          · subst hje
            have HJ2 : Hid (OneS f t (k * 100 + j) 0 0 0 n (some 1) sj) := Lib.hid (by have := HJ1.out; rw [show ((j : Int) + 1 - j) = 1 by omega] at this; exact this)
            obtain ⟨t10, h10⟩ := one_tick_due HJ2.out
            have H10 := Lib.hid h10
            have HT := Lib.hid (own_ptick HOJ.out HJ2.out.run (by omega))
            simp only [t10, List.length_singleton] at HT
            clear t10 h10
            go_wp2_with fail
            refine HT.out.mono ?_
            rintro e w10 ⟨p10, c10, rfl, ho10, _⟩
            have HO10 := Lib.hid ho10
            clear ho10
            go_wp2_with fail
            go_roundw
            case rel => exact ⟨j + 1, _, by go_num, by omega, by omega, Lib.hid ⟨fun h => by omega, fun _ => H10.out.mono (by omega), by omega, by omega⟩, HO10⟩
            case measure => simp [intOf] <;> omega
          · have hje2 : ((j : Int) == (d : Int)) = false := by simp; omega
            obtain ⟨t10, h10⟩ := one_tick_more HJ1.out (by omega)
            have H10 := Lib.hid h10
            have HT := Lib.hid (own_ptick HOJ.out HJ1.out.run (by omega))
            simp only [t10, List.length_nil] at HT
            clear t10 h10
            go_wp2_with fail
            refine HT.out.mono ?_
            rintro e w10 ⟨p10, c10, rfl, ho10, _⟩
            have HO10 := Lib.hid ho10
            clear ho10
            go_wp2_with fail
            go_roundw
            case rel => exact ⟨j + 1, _, by go_num, by omega, by omega, Lib.hid ⟨fun h => by have := H10.out.mono (K' := k * 100 + (j + 1)) (by omega); rw [show ((d : Int) + 1 - j - 1) = ((d : Int) + 1 - ((j + 1 : Nat) : Int)) by omega] at this; exact this, fun h => by omega, by omega, by omega⟩, HO10⟩
            case measure => simp [intOf] <;> omega
        · obtain rfl : j = d + 1 := by omega
          have HJ1 : Hid (OneS f t (k * 100 + (d + 1)) 1 0 0 n none sj) := Lib.hid (HJ.out.2.1 rfl)
          by_cases hop : k = O
          · have hop2 : ((k : Int) == (O : Int)) = true := by simp [hop]
            obtain ⟨t3, h3⟩ := one_opened HJ1.out
            have H3 := Lib.hid h3
            have HOP := Lib.hid (own_opened HOJ.out HJ1.out.run (by omega) 0)
            rw [t3] at HOP
            clear t3 h3
            go_wp2_with fail
            refine HOP.out.mono ?_
            rintro e w3 ⟨rfl, ho3⟩
            have HWT := Lib.hid (own_wait ho3 0)
            rw [one_wait H3.out] at HWT
            obtain ⟨t4, h4⟩ := one_failed H3.out (by decide)
            have H4 := Lib.hid h4
            have HFA := Lib.hid (own_failed ho3 H3.out.run (by omega) 0)
            rw [t4] at HFA
            clear ho3 t4 h4 HOP
            go_wp2_with fail
            try rw [hf1]
            refine HWT.out.mono ?_
            rintro e w4 ⟨rfl, rfl⟩
            go_wp2_with fail
            refine HFA.out.mono ?_
            rintro e w5 ⟨rfl, ho5⟩
            have HO5 := Lib.hid ho5
            clear ho5
            go_wp2_with fail
            go_roundw
            case rel => exact ⟨k + 1, f.toNat, min t (2 * f), _, by omega, by go_num, by (congr 1; omega), by (first | rfl | (congr 1; omega)), by omega, by omega, by omega, by omega, Lib.hid (by have := H4.out.mono (K' := 1 + (k + 1) * 100) (by omega); rw [show ((f.toNat : Nat) : Int) = f by omega]; exact this), HO5⟩
            case measure => simp [intOf] <;> omega
          · have hop2 : ((k : Int) == (O : Int)) = false := by simp; omega
            have HWT := Lib.hid (own_wait HOJ.out 0)
            rw [one_wait HJ1.out] at HWT
            obtain ⟨t4, h4⟩ := one_failed HJ1.out (by decide)
            have H4 := Lib.hid h4
            have HFA := Lib.hid (own_failed HOJ.out HJ1.out.run (by omega) 0)
            rw [t4] at HFA
            clear t4 h4
            go_wp2_with fail
            refine HWT.out.mono ?_
            rintro e w4 ⟨rfl, rfl⟩
            go_wp2_with fail
            refine HFA.out.mono ?_
            rintro e w5 ⟨rfl, ho5⟩
            have HO5 := Lib.hid ho5
            clear ho5
            go_wp2_with fail
            go_roundw
            case rel => exact ⟨k + 1, n.toNat, min t (2 * n), _, by omega, by go_num, by (congr 1; omega), by (first | rfl | (congr 1; omega)), by omega, by omega, by omega, by omega, Lib.hid (by have := H4.out.mono (K' := 1 + (k + 1) * 100) (by omega); rw [show ((n.toNat : Nat) : Int) = n by omega]; exact this), HO5⟩
            case measure => simp [intOf] <;> omega
    · obtain rfl : k = M := by omega
      obtain ⟨t7, h7⟩ := one_failed_no HK.out
      have HFA := Lib.hid (own_failed HO.out HK.out.run (by omega) 0)
      rw [t7, h7] at HFA
      clear t7 h7
      go_wp2_with fail
      refine HFA.out.mono ?_
      rintro e w7 ⟨rfl, ho7⟩
      have HO7 := Lib.hid ho7
      clear ho7
      go_wp2_with fail
      refine (awake19_any _).mono ?_
      rintro e w12 ⟨rfl, hb⟩
      have HB12 := Lib.hid (below_then HO7.out.below0 hb)
      clear hb
      go_wp2_with fail
      go_ret
      exact ⟨rfl, HB12.out⟩
end Go.Proofs.Ytilkfcpdeeaifaa
