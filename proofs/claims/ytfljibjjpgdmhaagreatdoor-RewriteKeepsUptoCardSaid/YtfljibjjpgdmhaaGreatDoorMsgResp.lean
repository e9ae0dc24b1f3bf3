/- The walks of message.Response and of the reference's. -/
import Derived.Test.YtfljibjjpgdmhaaGreatDoorMsgRespPure
import Derived.Test.YtfljibjjpgdmhaaGreatDoorMsgEach
set_option linter.unusedVariables false
set_option linter.unusedSimpArgs false
set_option linter.unusedSectionVars false
namespace Go.Proofs.YtfljibjjpgdmhaaGreatDoor
open Go.RowKit
set_option maxHeartbeats 1000000 in
set_option maxRecDepth 100000 in
theorem digits3_any (s : ByteArray) (w : World) (h3 : s.size = 3) :
    Calls Tryz.prog 36 #[.string s, .int .i64 3] w fun e w' => e = .returned (.bool (digitsB s)) ∧ Below w.heap.size w w' := by
  have e0 : (s.toList == []) = false := by rw [toList_nil]; exact decide_eq_false (by omega)
  have HD := Lib.hid (digits_eq s (by omega) (by omega))
  go_enter Tryz.func36, Tryz.ntmps36
  go_wp2_with fail
  refine (Any.strings_Trim_laid Tryz.lays160 (by kernel_rfl) s digK _ (by omega) (by decide) (ascii_of_all (by decide))).mono ?_
  rintro e w1 ⟨rfl, hb⟩
  have HB := Lib.hid hb
  clear hb
  generalize hq : (⟨(Lib.trimS s.data.toList digK.data.toList).toArray⟩ : ByteArray) = q
  rw [hq] at HD
  clear hq
  go_wp2_with fail
  all_goals
    go_ret
    exact ⟨bool_eq (by rw [HD.out]; cases q.toList <;> rfl), HB.out⟩
theorem zstr : ∀ w, (zeroValue 9).run Tryz.prog w = .ok (.string emptyB) w := fun w => by kernel_rfl
def RespPost (r : Int × Int) (w : World) (e : Ending) (w' : World) : Prop := e = .returned (.tuple #[.int .i64 r.1, .int .i64 r.2]) ∧ Below w.heap.size w w'
set_option maxHeartbeats 4000000 in
set_option maxRecDepth 100000 in
theorem resp_any (A : Option Addr) (cap : Nat) (l : List Hdr) (w : World) (hl : HdrsAt w A l) (hm : l.length ≤ maxLen) (hf : ∀ y ∈ l, y.fits) :
    Calls Tryz.prog 15 #[.slice A l.length cap] w (RespPost (respF l) w) := by
  have HL := Lib.hid hl
  have HF := Lib.hid hf
  have HM := Lib.hid hm
  clear hl hf hm
  generalize hr : respF l = r
  have HR := Lib.hid hr
  clear hr
  go_enter Tryz.func15, Tryz.ntmps15
  go_wp2_with fail
  refine (walk_any A cap l (some ⟨w.heap.size, 0, none⟩) [statusK] (by decide) _ (HL.out.below (below_al (Below.refl _ _) _)) (StrsAt.block (BlockIs.new w [.string statusK] _)) HM.out HF.out).mono ?_
  rintro e w1 ⟨hh, hb⟩
  have HB := Lib.hid (below_then (below_al (Below.refl _ _) _) hb)
  clear hb
  rcases hh with ⟨h0, rfl⟩ | ⟨h0, m, hml, rfl, hsm⟩
  · have HRR : Hid (r = (0, walkF [statusK] l)) := Lib.hid (by rw [← HR.out, respF, if_pos h0])
    have hz : (walkF [statusK] l == 0) = false := by simpa using h0
    generalize walkF [statusK] l = c at *
    clear h0
    go_wp2_with fail
    go_ret2
    exact ⟨by rw [HRR.out]; rfl, HB.out⟩
  · have HW0 := Lib.hid h0
    have HSZ : Hid ((getV statusK l).size ≤ maxLen) := Lib.hid (by
      rw [getV]
      cases hq : findH statusK l with
      | none => decide
      | some f => obtain ⟨x, hx, _, rfl⟩ := find_mem hq; exact (HF.out x hx).2)
    have hlk := look_ps hsm (P := Tryz.prog) Tryz.underlying64 Tryz.underlying9 (zstr w1) statusK (by decide)
    have HRR : Hid (r = if statB (getV statusK l) = true then (if (lenF l).2.2 ≠ 0 then (0, (lenF l).2.2) else (((numF (getV statusK l).data.toList : Nat) : Int), 0)) else (0, 132)) := Lib.hid (by rw [← HR.out, respF, if_neg (by rw [h0]; simp)])
    generalize getV statusK l = s at *
    clear h0
    unfold statusK at hlk
    have hs3 : s.size ≤ 9223372036854775807 := by have := HSZ.out; unfold maxLen at this; omega
    by_cases h3 : s.size = 3
    · cases hd : digitsB s with
      | false =>
        have HX : Hid (r = (0, 132)) := Lib.hid (by rw [HRR.out, stat_dig hd]; rfl)
        have HD := Lib.hid hd
        clear hd
        go_wp2_with fail
        refine (digits3_any s _ h3).mono ?_
        rw [HD.out]
        rintro e w2 ⟨rfl, hb⟩
        have HB2 := Lib.hid (below_then HB.out hb)
        clear hb
        go_wp2_with fail
        go_ret2
        exact ⟨by rw [HX.out]; rfl, HB2.out⟩
      | true =>
        have HD := Lib.hid hd
        have HC := Lib.hid (stat_cases h3 hd)
        clear hd
        go_wp2_with fail
        refine (digits3_any s _ h3).mono ?_
        rw [HD.out]
        rintro e w2 ⟨rfl, hb⟩
        have HB2 := Lib.hid (below_then HB.out hb)
        clear hb hlk
        rcases HC.out with ⟨q0, q1⟩ | ⟨q0, q1, q2, q3⟩ | hgood
        · have HX : Hid (r = (0, 132)) := Lib.hid (by rw [HRR.out, q0]; rfl)
          clear HC q0
          go_wp2_with fail
          go_ret2
          exact ⟨by rw [HX.out]; rfl, HB2.out⟩
        · have HX : Hid (r = (0, 132)) := Lib.hid (by rw [HRR.out, q0]; rfl)
          clear HC q0
          go_wp2_with fail
          go_ret2
          exact ⟨by rw [HX.out]; rfl, HB2.out⟩
        · have HG : Hid (Op.bytesLess s.toList [49, 48, 48] = false ∧ (Op.bytesLess s.toList [53, 57, 57] || s.toList == [53, 57, 57]) = true ∧ statB s = true) := Lib.hid (by
            rcases hgood with ⟨q0, q1, q2⟩ | ⟨q0, q1, q2, q3⟩
            · exact ⟨q1, by rw [q2]; rfl, q0⟩
            · exact ⟨q1, by rw [q3]; simp, q0⟩)
          clear hgood HC
          obtain ⟨q1, q2, q0⟩ := HG.out
          have HX : Hid (r = if (lenF l).2.2 ≠ 0 then (0, (lenF l).2.2) else (((numF s.data.toList : Nat) : Int), 0)) := Lib.hid (by rw [HRR.out, if_pos q0])
          clear q0 HG
          go_wp2_with fail
          refine (len_any A cap l _ (HL.out.below HB2.out) HM.out HF.out).mono ?_
          generalize lenF l = z at HX
          obtain ⟨z1, z2, z3⟩ := z
          rintro e w3 ⟨rfl, hb⟩
          have HB3 := Lib.hid (below_then HB2.out hb)
          clear hb
          by_cases hz : z3 = 0
          · subst hz
            have HY : Hid (r = (((numF s.data.toList : Nat) : Int), 0)) := Lib.hid (by rw [HX.out]; rfl)
            go_wp2_with fail
            refine (Tryz.strconv_Atoi s _ (by omega) (atoi_digits HD.out) _).mono ?_
            rintro e w4 ⟨rfl, t, rfl⟩
            go_wp2_with fail
            go_ret2
            exact ⟨by rw [HY.out]; rfl, below_then HB3.out (Lib.bytesWorld_below _ _ _)⟩
          · have HY : Hid (r = (0, z3)) := Lib.hid (by rw [HX.out]; simp [hz])
            have hz2 : (z3 == 0) = false := by simpa using hz
            clear hz
            go_wp2_with fail
            go_ret2
            exact ⟨by rw [HY.out]; rfl, HB3.out⟩
    · have HX : Hid (r = (0, 132)) := Lib.hid (by rw [HRR.out, stat_size h3]; rfl)
      go_wp2_with fail
      go_ret2
      exact ⟨by rw [HX.out]; rfl, HB.out⟩
set_option maxHeartbeats 4000000 in
set_option maxRecDepth 100000 in
theorem rresp_any (A : Option Addr) (cap : Nat) (l : List Hdr) (w : World) (hl : HdrsAt w A l) (hm : l.length ≤ maxLen) (hcap : l.length ≤ cap) (hf : ∀ y ∈ l, y.fits) :
    Calls Tryz.prog 14 #[.slice A l.length cap] w (RespPost (respF l) w) := by
  have HL := Lib.hid hl
  have HF := Lib.hid hf
  have HM := Lib.hid hm
  have HCAP := Lib.hid hcap
  clear hl hf hm hcap
  generalize hr : respF l = r
  have HR := Lib.hid hr
  clear hr
  go_enter Tryz.func14, Tryz.ntmps14
  go_wp2_with fail
  refine (each_any A cap l (some ⟨w.heap.size, 0, none⟩) [statusK] (by decide) _ (StrsAt.block (BlockIs.new w [.string statusK] _)) (HL.out.below (below_al (Below.refl _ _) _)) HM.out HCAP.out HF.out).mono ?_
  rintro e w1 ⟨rfl, hb⟩
  have HB := Lib.hid (below_then (below_al (Below.refl _ _) _) hb)
  clear hb
  by_cases h0 : walkF [statusK] l = 0
  · rw [h0]
    have HSZ : Hid ((getV statusK l).size ≤ maxLen) := Lib.hid (by
      rw [getV]
      cases hq : findH statusK l with
      | none => decide
      | some f => obtain ⟨x, hx, _, rfl⟩ := find_mem hq; exact (HF.out x hx).2)
    have HRR : Hid (r = if statB (getV statusK l) = true then (if (lenF l).2.2 ≠ 0 then (0, (lenF l).2.2) else (((numF (getV statusK l).data.toList : Nat) : Int), 0)) else (0, 132)) := Lib.hid (by rw [← HR.out, respF, if_neg (by rw [h0]; simp)])
    have HEM : Hid ((findH statusK l).isSome = false → (getV statusK l).size ≠ 3) := Lib.hid (fun h => by
      rw [getV]
      cases hq : findH statusK l with
      | none => decide
      | some f => rw [hq] at h; cases h)
    have HFD : Hid (Calls Tryz.prog 33 #[.slice A l.length cap, .string statusK] w1 fun e w' => e = .returned (.tuple #[.string (getV statusK l), .bool (findH statusK l).isSome]) ∧ w1 = w') := Lib.hid (rfind_any A cap l statusK _ (HL.out.below HB.out) HM.out)
    generalize getV statusK l = s at *
    generalize (findH statusK l).isSome = is at *
    clear h0
    have hs3 : s.size ≤ 9223372036854775807 := by have := HSZ.out; unfold maxLen at this; omega
    go_wp2_with fail
    refine HFD.out.mono ?_
    rintro e w2 ⟨rfl, rfl⟩
    cases is with
    | false =>
      have HX : Hid (r = (0, 132)) := Lib.hid (by rw [HRR.out, stat_size (HEM.out rfl)]; rfl)
      go_wp2_with fail
      go_ret2
      exact ⟨by rw [HX.out]; rfl, HB.out⟩
    | true =>
      by_cases h3 : s.size = 3
      · cases hd : digitsB s with
        | false =>
          have HX : Hid (r = (0, 132)) := Lib.hid (by rw [HRR.out, stat_dig hd]; rfl)
          have HD := Lib.hid hd
          clear hd
          go_wp2_with fail
          refine (rdigits_any s _ HSZ.out).mono ?_
          rw [HD.out]
          rintro e w2 ⟨rfl, rfl⟩
          go_wp2_with fail
          go_ret2
          exact ⟨by rw [HX.out]; rfl, HB.out⟩
        | true =>
          have HD := Lib.hid hd
          obtain ⟨a, b, c, e0, e1, e2, ha, hb, hc, hst, hnum⟩ := num3 h3 hd
          have HST := Lib.hid hst
          have HNUM := Lib.hid hnum
          obtain ⟨a1, a2⟩ := dig_le ha
          obtain ⟨b1, b2⟩ := dig_le hb
          obtain ⟨c1, c2⟩ := dig_le hc
          clear hd hst hnum ha hb hc
          go_wp2_with fail
          refine (rdigits_any s _ HSZ.out).mono ?_
          rw [HD.out]
          rintro e w2 ⟨rfl, rfl⟩
          by_cases q1 : a.toNat < 49
          · have HX : Hid (r = (0, 132)) := Lib.hid (by rw [HRR.out, HST.out, decide_eq_false (by omega)]; rfl)
            go_wp2_with fail
            go_ret2
            exact ⟨by rw [HX.out]; rfl, HB.out⟩
          · by_cases q2 : 53 < a.toNat
            · have HX : Hid (r = (0, 132)) := Lib.hid (by rw [HRR.out, HST.out, decide_eq_false (by omega)]; rfl)
              go_wp2_with fail
              go_ret2
              exact ⟨by rw [HX.out]; rfl, HB.out⟩
            · have HX : Hid (r = if (lenF l).2.2 ≠ 0 then (0, (lenF l).2.2) else (((numF s.data.toList : Nat) : Int), 0)) := Lib.hid (by rw [HRR.out, HST.out, decide_eq_true (by omega), if_pos rfl])
              go_wp2_with fail
              refine (rlen_any A cap l _ (HL.out.below HB.out) HM.out HF.out).mono ?_
              generalize lenF l = z at HX
              obtain ⟨z1, z2, z3⟩ := z
              rintro e w3 ⟨rfl, hb⟩
              have HB3 := Lib.hid (below_then HB.out hb)
              clear hb
              by_cases hz : z3 = 0
              · subst hz
                have HY : Hid (r = (((numF s.data.toList : Nat) : Int), 0)) := Lib.hid (by rw [HX.out]; rfl)
                go_wp2_with fail
                go_region
                go_wp2_with fail
                go_ret2
                refine ⟨?_, HB3.out.drew⟩
                rw [HY.out, HNUM.out]
                simp
                omega
              · have HY : Hid (r = (0, z3)) := Lib.hid (by rw [HX.out]; simp [hz])
                have hz2 : (z3 == 0) = false := by simpa using hz
                clear hz
                go_wp2_with fail
                go_ret2
                exact ⟨by rw [HY.out]; rfl, HB3.out⟩
      · have HX : Hid (r = (0, 132)) := Lib.hid (by rw [HRR.out, stat_size h3]; rfl)
        go_wp2_with fail
        go_ret2
        exact ⟨by rw [HX.out]; rfl, HB.out⟩
  · have HRR : Hid (r = (0, walkF [statusK] l)) := Lib.hid (by rw [← HR.out, respF, if_pos h0])
    have hz : (walkF [statusK] l == 0) = false := by simpa using h0
    generalize walkF [statusK] l = c at *
    clear h0
    go_wp2_with fail
    go_ret2
    exact ⟨by rw [HRR.out]; rfl, HB.out⟩
end Go.Proofs.YtfljibjjpgdmhaaGreatDoor
