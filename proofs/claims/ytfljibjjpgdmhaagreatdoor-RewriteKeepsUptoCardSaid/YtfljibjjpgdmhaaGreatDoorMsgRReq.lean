/- The walk of the reference's Request. -/
import Derived.Test.YtfljibjjpgdmhaaGreatDoorMsgReq
set_option linter.unusedVariables false
set_option linter.unusedSimpArgs false
set_option linter.unusedSectionVars false
namespace Go.Proofs.YtfljibjjpgdmhaaGreatDoor
open Go.RowKit
theorem emp_empty : emp emptyB = true := by rw [emp, toList_nil]; rfl
set_option maxHeartbeats 1000000 in
set_option maxRecDepth 100000 in
theorem rthere_any (A : Option Addr) (cap : Nat) (l : List Hdr) (n : ByteArray) (w : World) (hl : HdrsAt w A l) (hm : l.length ≤ maxLen) :
    Calls Tryz.prog 48 #[.slice A l.length cap, .string n] w fun e w' => e = .returned (.bool (thereB n l)) ∧ w = w' := by
  have HFD := Lib.hid (rfind_any A cap l n w hl hm)
  generalize ht : thereB n l = t
  have HT : Hid ((findH n l).isSome = t) := Lib.hid ht
  clear hl hm ht
  go_enter Tryz.func48, Tryz.ntmps48
  go_wp2_with fail
  refine HFD.out.mono ?_
  rw [HT.out]
  rintro e w1 ⟨rfl, rfl⟩
  go_wp2_with fail
  go_ret
  exact ⟨rfl, rfl⟩
set_option maxHeartbeats 1000000 in
set_option maxRecDepth 100000 in
theorem rfull_any (A : Option Addr) (cap : Nat) (l : List Hdr) (n : ByteArray) (w : World) (hl : HdrsAt w A l) (hm : l.length ≤ maxLen) :
    Calls Tryz.prog 49 #[.slice A l.length cap, .string n] w fun e w' => e = .returned (.bool (!emp (getV n l))) ∧ w = w' := by
  have HFD := Lib.hid (rfind_any A cap l n w hl hm)
  have HV : Hid ((findH n l).isSome = false → emp (getV n l) = true) := Lib.hid (fun h => by
    cases hq : findH n l with
    | none => rw [getV, hq]; exact emp_empty
    | some x => rw [hq] at h; cases h)
  have HG : Hid ((findH n l).getD emptyB = getV n l) := Lib.hid rfl
  generalize getV n l = v at *
  generalize (findH n l).isSome = t at *
  clear hl hm
  go_enter Tryz.func49, Tryz.ntmps49
  go_wp2_with fail
  refine HFD.out.mono ?_
  rw [HG.out]
  rintro e w1 ⟨rfl, rfl⟩
  cases t with
  | true =>
    generalize he : emp v = b
    have HE0 := Lib.hid he
    unfold emp at he
    cases b with
    | true =>
      go_wp2_with fail
      all_goals
        go_ret
        exact ⟨bool_eq (by rw [HE0.out]; rfl), rfl⟩
    | false =>
      go_wp2_with fail
      all_goals
        go_ret
        exact ⟨bool_eq (by rw [HE0.out]; rfl), rfl⟩
  | false =>
    have HE := Lib.hid (HV.out rfl)
    go_wp2_with fail
    go_ret
    exact ⟨bool_eq (by rw [HE.out]; rfl), rfl⟩
set_option maxHeartbeats 4000000 in
set_option maxRecDepth 100000 in
theorem rwhole_any (A : Option Addr) (cap : Nat) (l : List Hdr) (w : World) (hl : HdrsAt w A l) (hm : l.length ≤ maxLen) :
    Calls Tryz.prog 31 #[.slice A l.length cap] w fun e w' => e = .returned (.bool (wholeB l)) ∧ w = w' := by
  have HFD : Hid (Calls Tryz.prog 33 #[.slice A l.length cap, .string methodR] w fun e w' => (∃ x, e = .returned (.tuple #[.string (getV methodR l), x])) ∧ w = w') := Lib.hid ((rfind_any A cap l methodR w hl hm).mono (fun e w' ⟨he, hw⟩ => ⟨⟨_, he⟩, hw⟩))
  have HT1 := Lib.hid (rthere_any A cap l schemeR w hl hm)
  have HT2 := Lib.hid (rthere_any A cap l pathR w hl hm)
  have HT3 := Lib.hid (rthere_any A cap l authR w hl hm)
  have HT4 := Lib.hid (rthere_any A cap l protoR w hl hm)
  have HT5 := Lib.hid (rfull_any A cap l schemeR w hl hm)
  have HT6 := Lib.hid (rfull_any A cap l pathR w hl hm)
  generalize hw : wholeB l = r
  have HWB : Hid (r = wholeT (emp (getV methodR l)) (conB (getV methodR l)) (emp (getV schemeR l)) (emp (getV pathR l)) (thereB schemeR l) (thereB pathR l) (thereB authR l) (thereB protoR l)) := Lib.hid hw.symm
  clear hl hm hw
  generalize thereB schemeR l = ts at *
  generalize thereB pathR l = tp at *
  generalize thereB authR l = ta at *
  generalize thereB protoR l = tr at *
  generalize getV methodR l = vm at *
  generalize emp (getV schemeR l) = se at *
  generalize emp (getV pathR l) = pe at *
  generalize hme : emp vm = me at *
  generalize hmc : conB vm = mc at *
  unfold emp at hme
  unfold conB at hmc
  go_enter Tryz.func31, Tryz.ntmps31
  go_wp2_with fail
  refine HFD.out.mono ?_
  rintro e w1 ⟨⟨x, rfl⟩, rfl⟩
  cases me with
  | true =>
    go_wp2_with fail
    go_ret
    exact ⟨bool_eq (by rw [HWB.out]; rfl), rfl⟩
  | false =>
    cases mc with
    | true =>
      go_wp2_with fail
      refine HT4.out.mono ?_
      rintro e w2 ⟨rfl, rfl⟩
      cases tr with
      | true =>
        go_wp2_with fail
        refine HT4.out.mono ?_
        rintro e w2 ⟨rfl, rfl⟩
        go_wp2_with fail
        refine HT3.out.mono ?_
        rintro e w2 ⟨rfl, rfl⟩
        cases ta with
        | true =>
          go_wp2_with fail
          refine HT5.out.mono ?_
          rintro e w2 ⟨rfl, rfl⟩
          cases se with
          | true =>
            go_wp2_with fail
            go_ret
            exact ⟨bool_eq (by rw [HWB.out]; rfl), rfl⟩
          | false =>
            go_wp2_with fail
            refine HT6.out.mono ?_
            rintro e w2 ⟨rfl, rfl⟩
            cases pe with
            | true =>
              go_wp2_with fail
              go_ret
              exact ⟨bool_eq (by rw [HWB.out]; rfl), rfl⟩
            | false =>
              go_wp2_with fail
              go_ret
              exact ⟨bool_eq (by rw [HWB.out]; rfl), rfl⟩
        | false =>
          go_wp2_with fail
          go_ret
          exact ⟨bool_eq (by rw [HWB.out]; rfl), rfl⟩
      | false =>
        go_wp2_with fail
        refine HT1.out.mono ?_
        rintro e w2 ⟨rfl, rfl⟩
        cases ts with
        | true =>
          go_wp2_with fail
          go_ret
          exact ⟨bool_eq (by rw [HWB.out]; rfl), rfl⟩
        | false =>
          go_wp2_with fail
          refine HT2.out.mono ?_
          rintro e w2 ⟨rfl, rfl⟩
          cases tp with
          | true =>
            go_wp2_with fail
            go_ret
            exact ⟨bool_eq (by rw [HWB.out]; rfl), rfl⟩
          | false =>
            go_wp2_with fail
            refine HT3.out.mono ?_
            rintro e w2 ⟨rfl, rfl⟩
            cases ta with
            | true =>
              go_wp2_with fail
              go_ret
              exact ⟨bool_eq (by rw [HWB.out]; rfl), rfl⟩
            | false =>
              go_wp2_with fail
              go_ret
              exact ⟨bool_eq (by rw [HWB.out]; rfl), rfl⟩
    | false =>
      go_wp2_with fail
      refine HT4.out.mono ?_
      rintro e w2 ⟨rfl, rfl⟩
      cases tr with
      | true =>
        go_wp2_with fail
        go_ret
        exact ⟨bool_eq (by rw [HWB.out]; rfl), rfl⟩
      | false =>
        go_wp2_with fail
        refine HT5.out.mono ?_
        rintro e w2 ⟨rfl, rfl⟩
        cases se with
        | true =>
          go_wp2_with fail
          go_ret
          exact ⟨bool_eq (by rw [HWB.out]; rfl), rfl⟩
        | false =>
          go_wp2_with fail
          refine HT6.out.mono ?_
          rintro e w2 ⟨rfl, rfl⟩
          cases pe with
          | true =>
            go_wp2_with fail
            go_ret
            exact ⟨bool_eq (by rw [HWB.out]; rfl), rfl⟩
          | false =>
            go_wp2_with fail
            go_ret
            exact ⟨bool_eq (by rw [HWB.out]; rfl), rfl⟩
set_option maxHeartbeats 2000000 in
set_option maxRecDepth 100000 in
theorem rreq_any (A : Option Addr) (cap : Nat) (l : List Hdr) (w : World) (hl : HdrsAt w A l) (hm : l.length ≤ maxLen) (hcap : l.length ≤ cap) (hf : ∀ y ∈ l, y.fits) :
    Calls Tryz.prog 12 #[.slice A l.length cap] w fun e w' => e = .returned (.int .i64 (reqF l)) ∧ Below w.heap.size w w' := by
  have HL := Lib.hid hl
  have HF := Lib.hid hf
  have HM := Lib.hid hm
  have HCAP := Lib.hid hcap
  clear hl hf hm hcap
  generalize hr : reqF l = r
  have HR := Lib.hid hr
  clear hr
  go_enter Tryz.func12, Tryz.ntmps12
  go_wp2_with fail
  refine (each_any A cap l (some ⟨w.heap.size, 0, none⟩) reqMay (by decide) _ (StrsAt.block (BlockIs.new w (reqMay.map Value.string) _)) (HL.out.below (below_al (Below.refl _ _) _)) HM.out HCAP.out HF.out).mono ?_
  rintro e w1 ⟨rfl, hb⟩
  have HB := Lib.hid (below_then (below_al (Below.refl _ _) _) hb)
  clear hb
  by_cases h0 : walkF reqMay l = 0
  · rw [h0]
    have HRR : Hid (r = if wholeB l = true then (lenF l).2.2 else 132) := Lib.hid (by rw [← HR.out, reqF, if_neg (by rw [h0]; simp)])
    clear h0
    go_wp2_with fail
    refine (rwhole_any A cap l _ (HL.out.below HB.out) HM.out).mono ?_
    generalize wholeB l = b at *
    rintro e w2 ⟨rfl, rfl⟩
    cases b with
    | true =>
      have HX : Hid (r = (lenF l).2.2) := Lib.hid (by rw [HRR.out]; rfl)
      go_wp2_with fail
      refine (rlen_any A cap l _ (HL.out.below HB.out) HM.out HF.out).mono ?_
      generalize lenF l = z at HX
      obtain ⟨z1, z2, z3⟩ := z
      rintro e w3 ⟨rfl, hb⟩
      have HB3 := Lib.hid (below_then HB.out hb)
      clear hb
      go_wp2_with fail
      go_ret
      exact ⟨int_eq (by rw [HX.out]), HB3.out⟩
    | false =>
      go_wp2_with fail
      go_ret
      exact ⟨int_eq (by rw [HRR.out]; rfl), HB.out⟩
  · have HRR : Hid (r = walkF reqMay l) := Lib.hid (by rw [← HR.out, reqF, if_pos h0])
    have hz : (walkF reqMay l == 0) = false := by simpa using h0
    generalize walkF reqMay l = c at *
    clear h0
    go_wp2_with fail
    go_ret
    exact ⟨int_eq HRR.out.symm, HB.out⟩
end Go.Proofs.YtfljibjjpgdmhaaGreatDoor
