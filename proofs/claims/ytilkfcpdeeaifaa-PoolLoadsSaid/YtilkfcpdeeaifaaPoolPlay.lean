/- The walks of the laws' ints, play. -/
import Derived.Test.YtilkfcpdeeaifaaPoolTwo
import Derived.Test.YtilkfcpdeeaifaaWhlOwnT
import Derived.Test.YtilkfcpdeeaifaaLawPoolDrains
import Derived.Deep.RegionHeld3
set_option linter.unusedVariables false
set_option linter.unusedSimpArgs false
set_option linter.unusedSectionVars false
namespace Go.Proofs.Ytilkfcpdeeaifaa
open Go.RowKit Go.Sort
set_option maxHeartbeats 1000000 in
set_option maxRecDepth 100000 in
theorem ints19_same {B B' : Nat} {w : World} {v v' : Value} {xs : List Int} (h : Owns B w v xs) (h' : Owns B' w v' xs) (hn : xs.length ≤ 1048576) :
    Calls Try.prog 38 #[v, v'] w fun e w' => e = .returned (.bool true) ∧ Below w.heap.size w w' := by
  obtain ⟨p, cap, rfl, hc⟩ := h.nums
  obtain ⟨p', cap', rfl, hc'⟩ := h'.nums
  have HC := Lib.hid hc
  have HC' := Lib.hid hc'
  clear h h' hc hc'
  go_enter Try.func38, Try.ntmps38
  go_wp2_with fail
  go_loopw [5] (fun i wr => ∃ k : Nat, k ≤ xs.length ∧ i = .int .i64 k ∧ Hid (Below w.heap.size w wr)) (fun i _ => xs.length - (intOf i).toNat)
  case atStart => exact ⟨0, by omega, rfl, Lib.hid (Below.refl _ _)⟩
  case round =>
    obtain ⟨k, hk, rfl, HB⟩ := hrel
    by_cases hlt : k < xs.length
    · obtain ⟨g, hg, c0⟩ := HC.out k hlt
      obtain ⟨g', hg', c1⟩ := HC'.out k hlt
      subst hg
      subst hg'
      have d0 := (HB.out.cell (World.block_lt_of_cell? w _ c0)).trans c0
      have d1 := (HB.out.cell (World.block_lt_of_cell? w _ c1)).trans c1
      clear c0 c1
      go_wp2_with fail
      try go_region
      try go_wp2_with fail
      go_roundw
      case rel => exact ⟨k + 1, by omega, by go_num, Lib.hid (by first | exact HB.out | exact HB.out.drew)⟩
      case measure => simp [intOf]; omega
    · obtain rfl : k = xs.length := by omega
      go_wp2_with fail
      go_ret
      exact ⟨rfl, HB.out⟩
section
variable {w0 w : World} {B pb wb wm : Nat} {gl : List Nat} {v : Value} {B' pb' xb : Nat} {gl' : List Nat} {v' : Value} {s1 s2 : PS} {k : Nat}
set_option maxHeartbeats 8000000 in
set_option maxRecDepth 100000 in
theorem play19_any (h : PTwo w0 B pb wb wm gl v B' pb' xb gl' v' [] s1 s2 w) (hr : s1.Run k) (hf : s1.Fit k) (hl : s1.strip = s2.strip) (hk : k ≤ 4611686018427387904) (o : Op3) :
    Calls Try.prog 21 #[.pointer (some ⟨pb, 0, none⟩), .pointer (some ⟨pb', 0, none⟩), .agg #[.int .i64 o.what, .int .i64 o.id, .int .i64 o.n]] w fun e w' => e = .returned (.bool true) ∧ PTwo w0 B pb wb wm gl v B' pb' xb gl' v' [] (s1.opF o) (s2.opF o) w' := by
  have hX := (h.box [.int .i64 o.what, .int .i64 o.id, .int .i64 o.n] 41)
  have HX := Lib.hid hX
  obtain ⟨u0, u1, u2, ul⟩ := hX.cells
  obtain ⟨x0, x1, x2, xl⟩ := (hX.below (Below.refl _ _).drew).cells
  have HXD := Lib.hid (hX.below (Below.refl _ _).drew)
  have HR := Lib.hid hr
  have HR2 := Lib.hid (like_run hl hr)
  have HF := Lib.hid hf
  have HF2 := Lib.hid (like_fit hl hf)
  have HL := Lib.hid hl
  clear h hX hr hf hl
  obtain ⟨ow, oi, on⟩ := o
  simp only at HX HXD u0 u1 u2 x0 x1 x2
  show Calls _ _ #[_, _, .agg #[.int .i64 ow, .int .i64 oi, .int .i64 on]] _ _
  by_cases q0 : ow = 0
  · subst q0
    have HO : Hid (∀ s : PS, s.opF ⟨0, oi, on⟩ = s.tickF.1) := Lib.hid (fun s => rfl)
    rw [HO.out, HO.out]
    have HA := Lib.hid (two_ticks HX.out HR.out HR2.out hk)
    have HE : Hid (s2.tickF.2 = s1.tickF.2) := Lib.hid (by rw [(strip_tick s1).2, (strip_tick s2).2, HL.out])
    have HLN : Hid (s1.tickF.2.length ≤ 1048576) := Lib.hid (by
      have h1 : s1.tickF.2.length ≤ s1.W.tickF.2.length := dial_out _ _
      have h2 := tick_len HR.out.good
      omega)
    clear HL HXD x0 x1 x2 xl
    go_enter Try.func21, Try.ntmps21
    go_wp2_with fail
    refine HA.out.mono ?_
    rintro e w1 ⟨r1, rfl, hB⟩
    have HB := Lib.hid hB
    clear hB
    go_wp2_with fail
    refine HB.out.mono ?_
    rintro e w2 ⟨r2, rfl, h2, hr2, hr1⟩
    rw [HE.out] at hr2
    have HT := Lib.hid h2.unbox
    have HIN := Lib.hid (ints19_same hr1 hr2 HLN.out)
    clear h2 hr1 hr2
    go_wp2_with fail
    refine HIN.out.mono ?_
    rintro e w3 ⟨rfl, hb3⟩
    have HT3 := Lib.hid (HT.out.below hb3)
    clear hb3
    go_wp2_with fail
    go_ret
    exact ⟨rfl, HT3.out⟩
  have b0 : (ow == 0) = false := by simpa using q0
  by_cases q1 : ow = 1
  · subst q1
    have HO : Hid (∀ s : PS, s.opF ⟨1, oi, on⟩ = (s.openedF oi).1) := Lib.hid (fun s => rfl)
    rw [HO.out, HO.out]
    have HE : Hid ((s2.openedF oi).2 = (s1.openedF oi).2) := Lib.hid (by rw [(strip_opened s1 oi).2, (strip_opened s2 oi).2, HL.out])
    have HA := Lib.hid (two_opened HXD.out HR.out hk oi)
    clear HX HL HXD u0 u1 u2
    go_enter Try.func21, Try.ntmps21
    go_wp2_with fail
    go_region_held3 (fun w' => w'.cell? ⟨w.heap.size, 1, none⟩ = some (.int .i64 oi)) (first | exact x1 | exact y1 | exact z1 | go_keep) (first | (go_at_call 9; refine HA.out.mono ?_; rintro e w3 ⟨rfl, h3⟩; have HB := two_ropened h3 HR2.out hk oi; rw [HE.out] at HB; replace HB := Lib.hid HB; obtain ⟨y0, y1, y2, yl⟩ := h3.cells; clear h3) | (go_at_call 40; refine HB.out.mono ?_; rintro e w4 ⟨rfl, h4⟩; have HT2 := Lib.hid h4.unbox; obtain ⟨z0, z1, z2, zl⟩ := h4.cells; clear h4))
    go_wp2_with fail
    go_ret
    exact ⟨rfl, HT2.out⟩
  have b1 : (ow == 1) = false := by simpa using q1
  by_cases q2 : ow = 2
  · subst q2
    have HO : Hid (∀ s : PS, s.opF ⟨2, oi, on⟩ = (s.failedF oi).1) := Lib.hid (fun s => rfl)
    rw [HO.out, HO.out]
    have HE : Hid ((s2.failedF oi).2 = (s1.failedF oi).2) := Lib.hid (by rw [(strip_failed s1 oi).2, (strip_failed s2 oi).2, HL.out])
    have HA := Lib.hid (two_failed HXD.out HR.out hk oi)
    clear HX HL HXD u0 u1 u2
    go_enter Try.func21, Try.ntmps21
    go_wp2_with fail
    go_region_held3 (fun w' => w'.cell? ⟨w.heap.size, 1, none⟩ = some (.int .i64 oi)) (first | exact x1 | exact y1 | exact z1 | go_keep) (first | (go_at_call 11; refine HA.out.mono ?_; rintro e w3 ⟨rfl, h3⟩; have HB := two_rfailed h3 HR2.out HF2.out hk oi; rw [HE.out] at HB; replace HB := Lib.hid HB; obtain ⟨y0, y1, y2, yl⟩ := h3.cells; clear h3) | (go_at_call 41; refine HB.out.mono ?_; rintro e w4 ⟨rfl, h4⟩; have HT2 := Lib.hid h4.unbox; obtain ⟨z0, z1, z2, zl⟩ := h4.cells; clear h4))
    go_wp2_with fail
    go_ret
    exact ⟨rfl, HT2.out⟩
  have b2 : (ow == 2) = false := by simpa using q2
  by_cases q3 : ow = 3
  · subst q3
    have HO : Hid (∀ s : PS, s.opF ⟨3, oi, on⟩ = (s.drainF oi).1) := Lib.hid (fun s => rfl)
    rw [HO.out, HO.out]
    have HE : Hid ((s2.drainF oi).2 = (s1.drainF oi).2) := Lib.hid (by rw [(strip_drain s1 oi).2, (strip_drain s2 oi).2, HL.out])
    have HA := Lib.hid (two_drain HXD.out HR.out hk oi)
    clear HX HL HXD u0 u1 u2
    go_enter Try.func21, Try.ntmps21
    go_wp2_with fail
    go_region_held3 (fun w' => w'.cell? ⟨w.heap.size, 1, none⟩ = some (.int .i64 oi)) (first | exact x1 | exact y1 | exact z1 | go_keep) (first | (go_at_call 15; refine HA.out.mono ?_; rintro e w3 ⟨rfl, h3⟩; have HB := two_rdrain h3 HR2.out hk oi; rw [HE.out] at HB; replace HB := Lib.hid HB; obtain ⟨y0, y1, y2, yl⟩ := h3.cells; clear h3) | (go_at_call 42; refine HB.out.mono ?_; rintro e w4 ⟨rfl, h4⟩; have HT2 := Lib.hid h4.unbox; obtain ⟨z0, z1, z2, zl⟩ := h4.cells; clear h4))
    go_wp2_with fail
    go_ret
    exact ⟨rfl, HT2.out⟩
  have b3 : (ow == 3) = false := by simpa using q3
  by_cases q4 : ow = 4
  · subst q4
    have HO : Hid (∀ s : PS, s.opF ⟨4, oi, on⟩ = (s.limitF oi on).1) := Lib.hid (fun s => rfl)
    rw [HO.out, HO.out]
    have HE : Hid ((s2.limitF oi on).2 = (s1.limitF oi on).2) := Lib.hid (by rw [(strip_limit s1 oi on).2, (strip_limit s2 oi on).2, HL.out])
    have HA := Lib.hid (two_limit HXD.out HR.out hk oi on)
    clear HX HL HXD u0 u1 u2
    go_enter Try.func21, Try.ntmps21
    go_wp2_with fail
    go_region_held3 (fun w' => w'.cell? ⟨w.heap.size, 1, none⟩ = some (.int .i64 oi) ∧ w'.cell? ⟨w.heap.size, 2, none⟩ = some (.int .i64 on)) (first | exact ⟨x1, x2⟩ | exact ⟨y1, y2⟩ | exact ⟨z1, z2⟩ | go_keep) (first | (go_at_call 13; refine HA.out.mono ?_; rintro e w3 ⟨rfl, h3⟩; have HB := two_rlimit h3 HR2.out HF2.out hk oi on; rw [HE.out] at HB; replace HB := Lib.hid HB; obtain ⟨y0, y1, y2, yl⟩ := h3.cells; clear h3) | (go_at_call 43; refine HB.out.mono ?_; rintro e w4 ⟨rfl, h4⟩; have HT2 := Lib.hid h4.unbox; obtain ⟨z0, z1, z2, zl⟩ := h4.cells; clear h4))
    go_wp2_with fail
    go_ret
    exact ⟨rfl, HT2.out⟩
  have b4 : (ow == 4) = false := by simpa using q4
  by_cases q5 : ow = 5
  · subst q5
    have HO : Hid (∀ s : PS, s.opF ⟨5, oi, on⟩ = (s.takeF oi).1) := Lib.hid (fun s => rfl)
    rw [HO.out, HO.out]
    have HE : Hid ((s2.takeF oi).2 = (s1.takeF oi).2) := Lib.hid (by rw [(strip_take s1 oi).2, (strip_take s2 oi).2, HL.out])
    have HA := Lib.hid (two_take HXD.out HR.out hk oi)
    clear HX HL HXD u0 u1 u2
    go_enter Try.func21, Try.ntmps21
    go_wp2_with fail
    go_region_held3 (fun w' => w'.cell? ⟨w.heap.size, 1, none⟩ = some (.int .i64 oi)) (first | exact x1 | exact y1 | exact z1 | go_keep) (first | (go_at_call 14; refine HA.out.mono ?_; rintro e w3 ⟨rfl, h3⟩; have HB := two_rtake h3 HR2.out hk oi; rw [HE.out] at HB; replace HB := Lib.hid HB; obtain ⟨y0, y1, y2, yl⟩ := h3.cells; clear h3) | (go_at_call 20; refine HB.out.mono ?_; rintro e w4 ⟨rfl, h4⟩; have HT2 := Lib.hid h4.unbox; obtain ⟨z0, z1, z2, zl⟩ := h4.cells; clear h4))
    go_wp2_with fail
    go_ret
    exact ⟨rfl, HT2.out⟩
  have b5 : (ow == 5) = false := by simpa using q5
  by_cases q6 : ow = 6
  · subst q6
    have HO : Hid (∀ s : PS, s.opF ⟨6, oi, on⟩ = (s.putF oi).1) := Lib.hid (fun s => rfl)
    rw [HO.out, HO.out]
    have HE : Hid ((s2.putF oi).2 = (s1.putF oi).2) := Lib.hid (by rw [(strip_put s1 oi).2, (strip_put s2 oi).2, HL.out])
    have HA := Lib.hid (two_put HXD.out HR.out hk oi)
    clear HX HL HXD u0 u1 u2
    go_enter Try.func21, Try.ntmps21
    go_wp2_with fail
    go_region_held3 (fun w' => w'.cell? ⟨w.heap.size, 1, none⟩ = some (.int .i64 oi)) (first | exact x1 | exact y1 | exact z1 | go_keep) (first | (go_at_call 17; refine HA.out.mono ?_; rintro e w3 ⟨rfl, h3⟩; have HB := two_rput h3 HR2.out hk oi; rw [HE.out] at HB; replace HB := Lib.hid HB; obtain ⟨y0, y1, y2, yl⟩ := h3.cells; clear h3) | (go_at_call 44; refine HB.out.mono ?_; rintro e w4 ⟨rfl, h4⟩; have HT2 := Lib.hid h4.unbox; obtain ⟨z0, z1, z2, zl⟩ := h4.cells; clear h4))
    go_wp2_with fail
    go_ret
    exact ⟨rfl, HT2.out⟩
  have b6 : (ow == 6) = false := by simpa using q6
  have HO : Hid (∀ s : PS, s.opF ⟨ow, oi, on⟩ = (s.probeF oi (on == 1)).1) := Lib.hid (fun s => by
    unfold PS.opF
    rw [if_neg q0, if_neg q1, if_neg q2, if_neg q3, if_neg q4, if_neg q5, if_neg q6])
  rw [HO.out, HO.out]
  have HE : Hid ((s2.probeF oi (on == 1)).2 = (s1.probeF oi (on == 1)).2) := Lib.hid (by rw [(strip_probe s1 oi (on == 1)).2, (strip_probe s2 oi (on == 1)).2, HL.out])
  have HA := Lib.hid (two_probe HXD.out HR.out HF.out hk oi (on == 1))
  clear HX HL HXD u0 u1 u2
  go_enter Try.func21, Try.ntmps21
  go_wp2_with fail
  go_region_held3 (fun w' => w'.cell? ⟨w.heap.size, 1, none⟩ = some (.int .i64 oi) ∧ w'.cell? ⟨w.heap.size, 2, none⟩ = some (.int .i64 on)) (first | exact ⟨x1, x2⟩ | exact ⟨y1, y2⟩ | exact ⟨z1, z2⟩ | go_keep) (first | (go_at_call 45; refine HA.out.mono ?_; rintro e w3 ⟨rfl, h3⟩; have HB := two_rprobe h3 HR2.out HF2.out hk oi (on == 1); rw [HE.out] at HB; replace HB := Lib.hid HB; obtain ⟨y0, y1, y2, yl⟩ := h3.cells; clear h3) | (go_at_call 46; refine HB.out.mono ?_; rintro e w4 ⟨rfl, h4⟩; have HT2 := Lib.hid h4.unbox; obtain ⟨z0, z1, z2, zl⟩ := h4.cells; clear h4))
  go_wp2_with fail
  go_ret
  exact ⟨rfl, HT2.out⟩
end
end Go.Proofs.Ytilkfcpdeeaifaa
