/- The reference's Print. -/
import Derived.Test.YtbjhmgdkjbphkaaDoorScrPrint
set_option linter.unusedVariables false
set_option linter.unusedSimpArgs false
set_option linter.unusedSectionVars false
namespace Go.Proofs.YtbjhmgdkjbphkaaDoor
open Go.RowKit
theorem print_ok {what a b d : Int} (h : printOk what a b d = true) : (0 ≤ what ∧ what < 8) ∧ okB a = true ∧ okB b = true ∧ okB d = true := by
  unfold printOk fineK at h
  simp only [Bool.and_eq_true, decide_eq_true_eq] at h
  exact ⟨h.1.1.1, h.1.1.2, h.1.2, h.2⟩
theorem print_bad {what a b d : Int} (h : printOk what a b d = false) : what < 0 ∨ 7 < what ∨ okB a = false ∨ (okB a = true ∧ okB b = false) ∨ (okB a = true ∧ okB b = true ∧ okB d = false) := by
  unfold printOk fineK at h
  by_cases h1 : what < 0
  · exact .inl h1
  by_cases h2 : 7 < what
  · exact .inr (.inl h2)
  have h3 : decide (0 ≤ what) = true := decide_eq_true (by omega)
  have h4 : decide (what < 8) = true := decide_eq_true (by omega)
  rw [h3, h4] at h
  cases ha : okB a <;> cases hb : okB b <;> cases hd : okB d <;> simp_all
theorem headT_step (what a b d : Int) (j : Nat) (hj : j < 3) : headT what a b d (j + 1) = headT what a b d j ++ 32 :: Lib.itoa ([a, b, d].getD j 0) := by
  rw [headT_snoc what a b d j hj]
  match j, hj with
  | 0, _ => rfl
  | 1, _ => rfl
  | 2, _ => rfl
theorem okB_nat {n : Int} (h : okB n = true) : ∃ k : Nat, n = k ∧ k ≤ 999999999 := by
  unfold okB at h
  simp at h
  obtain ⟨k, rfl⟩ := Int.eq_ofNat_of_zero_le h.1
  exact ⟨k, rfl, by omega⟩
set_option maxHeartbeats 4000000 in
set_option maxRecDepth 100000 in
theorem rprint_any (what a b d : Int) (A : Option Addr) (cap : Nat) (l : List Int) (w : World) (hl : BytesAt w A l) (hm : l.length ≤ 140737488351232) (hw : ∀ y ∈ l, (Lit.int .u8 y).wf = true) :
    Calls Tryd.prog 7 #[.agg #[.int .i64 what, .int .i64 a, .int .i64 b, .int .i64 d, .slice A l.length cap]] w fun e w' => e = .returned (.tuple #[.string (printF what a b d l).1, .int .i64 (printF what a b d l).2]) ∧ Below w.heap.size w w' := by
  have HL := Lib.hid hl
  have HW := Lib.hid hw
  clear hl hw
  have BX := Lib.hid (BlockIs.new w [.int .i64 what, .int .i64 a, .int .i64 b, .int .i64 d, .slice A l.length cap] 24)
  have BB : Hid (Below w.heap.size w (w.alloc (.cells #[.int .i64 what, .int .i64 a, .int .i64 b, .int .i64 d, .slice A l.length cap] 24))) := Lib.hid (below_al (Below.refl _ _) _)
  have HSM : Hid (∀ n w, Calls Tryd.prog 17 #[.int .i64 n] w fun e w' => e = .returned (.bool (okB n)) ∧ w = w') := Lib.hid small_any
  cases hok : printOk what a b d with
  | false =>
    have HRES : Hid (printF what a b d l = (⟨#[]⟩, 4)) := Lib.hid (by unfold printF; rw [if_pos hok])
    have hb := print_bad hok
    clear hok
    rcases hb with hb | hb | hb | ⟨ha, hb⟩ | ⟨ha, hb, hd⟩
    · go_enter Tryd.func7, Tryd.ntmps7
      go_wp2_with fail
      go_ret2
      exact ⟨by rw [HRES.out]; rfl, BB.out⟩
    · have hb2 : ¬ what < 0 := by omega
      go_enter Tryd.func7, Tryd.ntmps7
      go_wp2_with fail
      go_ret2
      exact ⟨by rw [HRES.out]; rfl, BB.out⟩
    · go_enter Tryd.func7, Tryd.ntmps7
      go_wp2_with (go_at_call 17; refine (HSM.out _ _).mono ?_; rintro e w' ⟨rfl, rfl⟩; simp only [hb])
      all_goals go_ret2
      all_goals exact ⟨by rw [HRES.out]; rfl, BB.out⟩
    · go_enter Tryd.func7, Tryd.ntmps7
      go_wp2_with (go_at_call 17; refine (HSM.out _ _).mono ?_; rintro e w' ⟨rfl, rfl⟩; simp only [ha, hb])
      all_goals go_ret2
      all_goals exact ⟨by rw [HRES.out]; rfl, BB.out⟩
    · go_enter Tryd.func7, Tryd.ntmps7
      go_wp2_with (go_at_call 17; refine (HSM.out _ _).mono ?_; rintro e w' ⟨rfl, rfl⟩; simp only [ha, hb, hd])
      all_goals go_ret2
      all_goals exact ⟨by rw [HRES.out]; rfl, BB.out⟩
  | true =>
    obtain ⟨⟨h0, h8⟩, ha, hb, hd⟩ := print_ok hok
    have HOK := Lib.hid hok
    clear hok
    obtain ⟨m, rfl⟩ := Int.eq_ofNat_of_zero_le h0
    have hm8 : m < 8 := by omega
    have hx1 : ¬ (m : Int) < 0 := by omega
    have hx2 : ¬ (7 : Int) < (m : Int) := by omega
    go_enter Tryd.func7, Tryd.ntmps7
    go_upto_region 3 with (go_at_call 17; refine (HSM.out _ _).mono ?_; rintro e w' ⟨rfl, rfl⟩; simp only [ha, hb, hd])
    have HAO := Lib.hid ha
    have HBO := Lib.hid hb
    have HDO := Lib.hid hd
    generalize hw1 : w.alloc (.cells #[.int .i64 m, .int .i64 a, .int .i64 b, .int .i64 d, .slice A l.length cap] 24) = w1 at *
    clear hw1 ha hb hd h0 h8 hx1 hx2 HSM
    go_cut [4] (fun v4 wx => v4 = .string ⟨(nameB m).toArray⟩ ∧ Hid (Below w.heap.size w wx) ∧ Hid (BlockIs wx w.heap.size [.int .i64 m, .int .i64 a, .int .i64 b, .int .i64 d, .slice A l.length cap]))
    case first =>
      have x0 := BX.out.cell 0
      simp only [List.getElem?_cons_zero] at x0
      have xl := BX.out.lt
      have HBD := Lib.hid BB.out.drew
      have BXD := Lib.hid BX.out.drew
      have hm8i : (m : Int) < 8 := by omega
      go_region_with (first | (go_at_call 18; refine (rnames_any _).mono ?_; rintro e wn ⟨gn, rfl, hbn, hgn, hb3⟩; have HB3 := Lib.hid (below_then HBD.out hb3); have BX3 := Lib.hid (BXD.out.below hb3); have n0 := (hbn.cell m).trans (name_at m hm8); have nl := hbn.lt; have y0 := BX3.out.cell 0; simp only [List.getElem?_cons_zero] at y0; have yl := BX3.out.lt; clear hbn hgn hb3))
      all_goals
        (try go_wp2_with fail)
        go_meet
        exact ⟨rfl, HB3, BX3⟩
    case rest =>
      obtain ⟨rfl, HB, BXw⟩ := hcut
      clear BX BB
      have x1 := BXw.out.cell 1
      have x2 := BXw.out.cell 2
      have x3 := BXw.out.cell 3
      have xl := BXw.out.lt
      simp only [List.getElem?_cons_zero, List.getElem?_cons_succ] at x1 x2 x3
      go_upto_block 0 with fail
      have BG := Lib.hid (BlockIs.new wc [.int .i64 a, .int .i64 b, .int .i64 d] 3)
      have BX2 := Lib.hid (BXw.out.alloc (.cells #[.int .i64 a, .int .i64 b, .int .i64 d] 3))
      have HB2 := Lib.hid (below_al HB.out (.cells #[.int .i64 a, .int .i64 b, .int .i64 d] 3))
      change Hid (BlockIs (wc.alloc (.cells #[.int .i64 a, .int .i64 b, .int .i64 d] 3)) _ _) at BG
      generalize wc.heap.size = G at *
      generalize wc.alloc (.cells #[.int .i64 a, .int .i64 b, .int .i64 d] 3) = wr at *
      clear x1 x2 x3 xl BXw HB
      have g0 := BG.out.cell 0
      have g1 := BG.out.cell 1
      have g2 := BG.out.cell 2
      have gl := BG.out.lt
      simp only [List.getElem?_cons_zero, List.getElem?_cons_succ] at g0 g1 g2
      go_cut [5] (fun v5 wx => v5 = .slice (some ⟨G, 0, none⟩) (nT a b d) 3 ∧ Hid (wx = wr))
      case first =>
        go_wp2_with fail
        go_loopw [5] (fun v4 wr2 => ∃ j : Nat, j ≤ 3 ∧ nT a b d ≤ j ∧ v4 = .slice (some ⟨G, 0, none⟩) j 3 ∧ Hid (wr2 = wr)) (fun v4 _ => match v4 with | .slice _ j _ => j | _ => 0)
        case atStart => exact ⟨3, by omega, nT_le a b d, rfl, by first | exact Lib.hid rfl | exact Lib.hid trivial⟩
        case round =>
          obtain ⟨j, hj, hnt, rfl, HWR2⟩ := hrel
          have hwr := HWR2.out
          subst hwr
          have HNT := Lib.hid hnt
          clear hnt
          have hjs : j = 0 ∨ j = 1 ∨ j = 2 ∨ j = 3 := by omega
          rcases hjs with rfl | rfl | rfl | rfl
          · go_wp2_with fail
            go_meet
            exact ⟨by rw [show nT a b d = 0 by have := HNT.out; omega], by first | exact Lib.hid rfl | exact Lib.hid trivial⟩
          · by_cases hz : a = 0
            · have hz2 : (a == 0) = true := by simpa using hz
              have HZ := Lib.hid hz
              clear hz
              go_wp2_with fail
              go_roundw
              case rel => exact ⟨0, by omega, nT_down1 HNT.out HZ.out, rfl, by first | exact Lib.hid rfl | exact Lib.hid trivial⟩
              case measure => simp
            · have hz2 : (a == 0) = false := by simpa using hz
              have HZ := Lib.hid hz
              clear hz
              go_wp2_with fail
              go_meet
              exact ⟨by rw [nT_at1 HNT.out HZ.out], by first | exact Lib.hid rfl | exact Lib.hid trivial⟩
          · by_cases hz : b = 0
            · have hz2 : (b == 0) = true := by simpa using hz
              have HZ := Lib.hid hz
              clear hz
              go_wp2_with fail
              go_roundw
              case rel => exact ⟨1, by omega, nT_down2 HNT.out HZ.out, rfl, by first | exact Lib.hid rfl | exact Lib.hid trivial⟩
              case measure => simp
            · have hz2 : (b == 0) = false := by simpa using hz
              have HZ := Lib.hid hz
              clear hz
              go_wp2_with fail
              go_meet
              exact ⟨by rw [nT_at2 HNT.out HZ.out], by first | exact Lib.hid rfl | exact Lib.hid trivial⟩
          · by_cases hz : d = 0
            · have hz2 : (d == 0) = true := by simpa using hz
              have HZ := Lib.hid hz
              clear hz
              go_wp2_with fail
              go_roundw
              case rel => exact ⟨2, by omega, nT_down3 HZ.out, rfl, by first | exact Lib.hid rfl | exact Lib.hid trivial⟩
              case measure => simp
            · have hz2 : (d == 0) = false := by simpa using hz
              have HZ := Lib.hid hz
              clear hz
              go_wp2_with fail
              go_meet
              exact ⟨by rw [nT_at3 HZ.out], by first | exact Lib.hid rfl | exact Lib.hid trivial⟩
      case rest =>
        obtain ⟨rfl, HWX⟩ := hcut
        have hwx := HWX.out
        subst hwx
        generalize hNT : nT a b d = J at *
        have HJ := Lib.hid hNT
        have HJ3 : Hid (J ≤ 3) := Lib.hid (hNT ▸ nT_le a b d)
        clear hNT
        have H0 : Hid ((nameB (m : Int)) = headT m a b d 0) := Lib.hid (by simp [headT])
        rw [H0.out]
        clear g0 g1 g2 gl
        go_upto_block 2 with fail
        go_cut [4] (fun v4 wx => v4 = .string ⟨(headT m a b d J).toArray⟩ ∧ Hid (Below w.heap.size w wx) ∧ Hid (BlockIs wx w.heap.size [.int .i64 m, .int .i64 a, .int .i64 b, .int .i64 d, .slice A l.length cap]))
        case first =>
          go_wp2_with fail
          go_loopw [4, 6] (fun v4 v6 wr => ∃ k : Nat, k ≤ J ∧ v6 = .int .i64 k ∧ v4 = .string ⟨(headT m a b d k).toArray⟩ ∧ Hid (Below w.heap.size w wr) ∧ Hid (BlockIs wr w.heap.size [.int .i64 m, .int .i64 a, .int .i64 b, .int .i64 d, .slice A l.length cap]) ∧ Hid (BlockIs wr G [.int .i64 a, .int .i64 b, .int .i64 d])) (fun _ v6 _ => J - (intOf v6).toNat)
          case atStart => exact ⟨0, by omega, rfl, rfl, HB2, BX2, BG⟩
          case round =>
            clear HB2 BX2 BG
            obtain ⟨k, hk, rfl, rfl, HB, BXw, BGw⟩ := hrel
            have hJ3 := HJ3.out
            by_cases hlt : k < J
            · have c0 := nums_at _ _ _ _ _ BGw.out k (by omega)
              have gl := BGw.out.lt
              have hok := nums_ok HOK.out k (by omega)
              have HHT := Lib.hid (headT_step m a b d k (by omega))
              have hhl := headT_len HOK.out k
              generalize [a, b, d].getD k 0 = x at *
              obtain ⟨x, rfl, hx⟩ := okB_nat hok
              rw [itoa_nat] at HHT
              have hdl := nD_le (n := x) (by omega)
              have HTD := Lib.hid (fun w => told_any x w (by omega))
              clear hok
              have hs1 := size_mk (headT m a b d k)
              have hs2 := size_mk (Lib.decDigits x)
              have hs3 : (⟨#[32]⟩ : ByteArray).size = 1 := rfl
              have happ : (⟨(headT m a b d k).toArray⟩ : ByteArray) ++ ⟨#[32]⟩ = ⟨(headT m a b d k ++ [32]).toArray⟩ := app_mk _ [32]
              have hs4 := size_mk (headT m a b d k ++ [32])
              rw [List.length_append, List.length_singleton] at hs4
              have HAP := Lib.hid happ
              generalize headT m a b d k = X at *
              generalize Lib.decDigits x = Y at *
              go_wp2_with fail
              refine (HTD.out _).mono ?_
              rintro e w4 ⟨rfl, hb4⟩
              have HB4 := Lib.hid (below_then HB.out hb4)
              have BX4 := Lib.hid (BXw.out.below hb4)
              have BG4 := Lib.hid (BGw.out.below hb4)
              clear hb4
              go_wp2_with fail
              go_roundw
              case rel => exact ⟨k + 1, by omega, by go_num, by rw [HHT.out]; first | (rw [HAP.out, app_mk, List.append_assoc]; rfl) | (rw [app_mk, List.append_assoc]; rfl), HB4, BX4, BG4⟩
              case measure => simp [intOf]; omega
            · obtain rfl : k = J := by omega
              go_wp2_with fail
              go_meet
              exact ⟨rfl, HB, BXw⟩
        case rest =>
          clear HB2 BX2
          obtain ⟨rfl, HB, BXw⟩ := hcut
          have c4 := BXw.out.cell 4
          have xl := BXw.out.lt
          simp only [List.getElem?_cons_zero, List.getElem?_cons_succ] at c4
          have hhl := headT_len HOK.out J
          have HOK2 : Hid (¬ printOk m a b d = false) := Lib.hid (by rw [HOK.out]; simp)
          have HLL : Hid (lineT m a b d l = headT m a b d J ++ (if l = [] then [] else 32 :: 61 :: hexL l)) := Lib.hid (by unfold lineT; rw [HJ.out])
          have hs1 := size_mk (headT m a b d J)
          by_cases hnil : l = []
          · subst hnil
            have HRES : Hid (printF m a b d [] = (⟨(headT m a b d J).toArray⟩, 0)) := Lib.hid (by
              unfold printF
              rw [if_neg HOK2.out, if_neg (by simp), HLL.out]
              simp)
            generalize headT m a b d J = X at *
            go_wp2_with fail
            all_goals go_ret2
            all_goals exact ⟨by rw [HRES.out]; rfl, HB.out⟩
          · have hl0 : (0 : Int) < (l.length : Int) := by have := List.length_pos_iff.2 hnil; omega
            have HNIL := Lib.hid hnil
            clear hnil
            have hhx := hexL_len l
            have HRES : Hid (printF m a b d l = if 65536 < (headT m a b d J ++ 32 :: 61 :: hexL l).length then (⟨#[]⟩, 2) else (⟨(headT m a b d J ++ 32 :: 61 :: hexL l).toArray⟩, 0)) := Lib.hid (by
              unfold printF
              rw [if_neg HOK2.out, HLL.out, if_neg HNIL.out]
              simp only [ne_eq, HNIL.out, not_false_eq_true, true_and])
            have HLT : Hid ((headT m a b d J ++ 32 :: 61 :: hexL l).length = (headT m a b d J).length + 2 + 2 * l.length) := Lib.hid (by simp; omega)
            rw [HLT.out] at HRES
            by_cases hT : 65536 < (headT m a b d J).length + 2 + 2 * l.length
            · rw [if_pos hT] at HRES
              have hTi : (65536 : Int) < ((headT m a b d J).length : Int) + 2 + 2 * (l.length : Int) := by omega
              generalize headT m a b d J = X at *
              go_wp2_with fail
              all_goals go_ret2
              all_goals exact ⟨by rw [HRES.out]; rfl, HB.out⟩
            · rw [if_neg hT] at HRES
              have hTi : ¬ (65536 : Int) < ((headT m a b d J).length : Int) + 2 + 2 * (l.length : Int) := by omega
              have HDG := Lib.hid (digits_any A cap l _ (HL.out.below HB.out) (by omega) HW.out)
              have happ : (⟨(headT m a b d J).toArray⟩ : ByteArray) ++ ⟨#[32, 61]⟩ = ⟨(headT m a b d J ++ [32, 61]).toArray⟩ := app_mk _ [32, 61]
              have hs3 : (⟨#[32, 61]⟩ : ByteArray).size = 2 := rfl
              have hs2 := size_mk (hexL l)
              have hs4 := size_mk (headT m a b d J ++ [32, 61])
              rw [List.length_append] at hs4
              simp only [List.length_cons, List.length_nil] at hs4
              have HAP := Lib.hid happ
              generalize headT m a b d J = X at *
              go_wp2_with fail
              refine HDG.out.mono ?_
              rintro e w4 ⟨rfl, hb4⟩
              have HB4 := Lib.hid (below_then HB.out hb4)
              clear hb4
              go_wp2_with fail
              all_goals go_ret2
              all_goals exact ⟨by rw [HRES.out]; first | (rw [HAP.out, app_mk]; simp; rfl) | (simp [HAP.out, app_mk]; rfl) | (simp [HAP.out, app_mk]), HB4.out⟩
end Go.Proofs.YtbjhmgdkjbphkaaDoor
