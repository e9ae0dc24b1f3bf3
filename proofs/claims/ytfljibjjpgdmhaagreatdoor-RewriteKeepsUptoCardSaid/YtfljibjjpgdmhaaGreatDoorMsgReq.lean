/- The walks of message.Request and of the reference's. -/
import Derived.Test.YtfljibjjpgdmhaaGreatDoorMsgResp
set_option linter.unusedVariables false
set_option linter.unusedSimpArgs false
set_option linter.unusedSectionVars false
namespace Go.Proofs.YtfljibjjpgdmhaaGreatDoor
open Go.RowKit
def methodR : ByteArray := ⟨#[58, 109, 101, 116, 104, 111, 100]⟩
def schemeR : ByteArray := ⟨#[58, 115, 99, 104, 101, 109, 101]⟩
def authR : ByteArray := ⟨#[58, 97, 117, 116, 104, 111, 114, 105, 116, 121]⟩
def pathR : ByteArray := ⟨#[58, 112, 97, 116, 104]⟩
def protoR : ByteArray := ⟨#[58, 112, 114, 111, 116, 111, 99, 111, 108]⟩
def reqMay : List ByteArray := [methodR, schemeR, authR, pathR, protoR]
def thereB (n : ByteArray) (l : List Hdr) : Bool := (findH n l).isSome
def emp (s : ByteArray) : Bool := s.toList == []
def conB (s : ByteArray) : Bool := s.toList == [67, 79, 78, 78, 69, 67, 84]
/-- Whether the pseudo headers are as they must be: method empty, CONNECT; scheme, path empty; there: scheme, path, authority, protocol. -/
def wholeT (me mc se pe ts tp ta tr : Bool) : Bool :=
  if me = true then false
  else if (mc && !tr) = true then !ts && !tp && ta
  else if (tr && (!mc || !ta)) = true then false
  else !se && !pe
def wholeB (l : List Hdr) : Bool := wholeT (emp (getV methodR l)) (conB (getV methodR l)) (emp (getV schemeR l)) (emp (getV pathR l)) (thereB schemeR l) (thereB pathR l) (thereB authR l) (thereB protoR l)
def reqF (l : List Hdr) : Int :=
  if walkF reqMay l ≠ 0 then walkF reqMay l else if wholeB l = true then (lenF l).2.2 else 132
set_option maxHeartbeats 1000000 in
set_option maxRecDepth 100000 in
theorem there_any (l : List Hdr) (n : ByteArray) (hn : pseuB n.data.toList = true) (g m : Nat) (w : World) (hc : w.cell? ⟨g, 0, none⟩ = some (.map (some m))) (hs : SMapIs w m (psOf l)) :
    Calls Tryz.prog 41 #[.string n, .pointer (some ⟨g, 0, none⟩)] w fun e w' => e = .returned (.bool (thereB n l)) ∧ w = w' := by
  have hlk := look_ps2 hs (P := Tryz.prog) Tryz.underlying64 Tryz.underlying9 (zstr w) n hn
  generalize getV n l = v at hlk
  generalize ht : (findH n l).isSome = t at hlk
  have HT : Hid (thereB n l = t) := Lib.hid ht
  clear ht
  go_enter Tryz.func41, Tryz.ntmps41
  go_wp2_with fail
  go_ret
  exact ⟨bool_eq (by rw [HT.out]), rfl⟩
set_option maxHeartbeats 8000000 in
set_option maxRecDepth 100000 in
theorem req_any (A : Option Addr) (cap : Nat) (l : List Hdr) (w : World) (hl : HdrsAt w A l) (hm : l.length ≤ maxLen) (hf : ∀ y ∈ l, y.fits) :
    Calls Tryz.prog 22 #[.slice A l.length cap] w fun e w' => e = .returned (.int .i64 (reqF l)) ∧ Below w.heap.size w w' := by
  have HL := Lib.hid hl
  have HF := Lib.hid hf
  have HM := Lib.hid hm
  clear hl hf hm
  generalize hr : reqF l = r
  have HR := Lib.hid hr
  clear hr
  go_enter Tryz.func22, Tryz.ntmps22
  go_wp2_with fail
  refine (walk_any A cap l (some ⟨w.heap.size, 0, none⟩) reqMay (by decide) _ (HL.out.below (below_al (Below.refl _ _) _)) (StrsAt.block (BlockIs.new w (reqMay.map Value.string) _)) HM.out HF.out).mono ?_
  rintro e w1 ⟨hh, hb⟩
  have HB := Lib.hid (below_then (below_al (Below.refl _ _) _) hb)
  clear hb
  rcases hh with ⟨h0, rfl⟩ | ⟨h0, m, hml, rfl, hsm⟩
  · have HRR : Hid (r = walkF reqMay l) := Lib.hid (by rw [← HR.out, reqF, if_pos h0])
    have hz : (walkF reqMay l == 0) = false := by simpa using h0
    generalize walkF reqMay l = c at *
    clear h0
    go_wp2_with fail
    go_ret
    exact ⟨by rw [HRR.out]; rfl, by repeat (first | exact HB.out | apply below_al)⟩
  · have HRR : Hid (r = if wholeB l = true then (lenF l).2.2 else 132) := Lib.hid (by rw [← HR.out, reqF, if_neg (by rw [h0]; simp)])
    clear h0 hml
    have HBX : Hid (Below w.heap.size w (w1.alloc (.cells #[.map (some m)] 64))) := Lib.hid (below_al HB.out _)
    have hsx := hsm.alloc (.cells #[.map (some m)] 64)
    have HCX : Hid ((w1.alloc (.cells #[.map (some m)] 64)).cell? ⟨w1.heap.size, 0, none⟩ = some (.map (some m))) := Lib.hid (by have := (BlockIs.new w1 [.map (some m)] 64).cell 0; exact this)
    have hk1 := look_ps hsx (P := Tryz.prog) Tryz.underlying64 Tryz.underlying9 (zstr _) methodR (by decide)
    have hk2 := look_ps hsx (P := Tryz.prog) Tryz.underlying64 Tryz.underlying9 (zstr _) schemeR (by decide)
    have hk3 := look_ps hsx (P := Tryz.prog) Tryz.underlying64 Tryz.underlying9 (zstr _) pathR (by decide)
    have HT1 : Hid (∀ W, W = w1.alloc (.cells #[.map (some m)] 64) → Calls Tryz.prog 41 #[.string schemeR, .pointer (some ⟨w1.heap.size, 0, none⟩)] W fun e w' => e = .returned (.bool (thereB schemeR l)) ∧ W = w') := Lib.hid (fun W e => by subst e; exact there_any l schemeR (by decide) _ m _ HCX.out hsx)
    have HT2 : Hid (∀ W, W = w1.alloc (.cells #[.map (some m)] 64) → Calls Tryz.prog 41 #[.string pathR, .pointer (some ⟨w1.heap.size, 0, none⟩)] W fun e w' => e = .returned (.bool (thereB pathR l)) ∧ W = w') := Lib.hid (fun W e => by subst e; exact there_any l pathR (by decide) _ m _ HCX.out hsx)
    have HT3 : Hid (∀ W, W = w1.alloc (.cells #[.map (some m)] 64) → Calls Tryz.prog 41 #[.string authR, .pointer (some ⟨w1.heap.size, 0, none⟩)] W fun e w' => e = .returned (.bool (thereB authR l)) ∧ W = w') := Lib.hid (fun W e => by subst e; exact there_any l authR (by decide) _ m _ HCX.out hsx)
    have HT4 : Hid (∀ W, W = w1.alloc (.cells #[.map (some m)] 64) → Calls Tryz.prog 41 #[.string protoR, .pointer (some ⟨w1.heap.size, 0, none⟩)] W fun e w' => e = .returned (.bool (thereB protoR l)) ∧ W = w') := Lib.hid (fun W e => by subst e; exact there_any l protoR (by decide) _ m _ HCX.out hsx)
    clear hsm hsx
    have HWB : Hid (wholeB l = wholeT (emp (getV methodR l)) (conB (getV methodR l)) (emp (getV schemeR l)) (emp (getV pathR l)) (thereB schemeR l) (thereB pathR l) (thereB authR l) (thereB protoR l)) := Lib.hid rfl
    generalize thereB schemeR l = ts at *
    generalize thereB pathR l = tp at *
    generalize thereB authR l = ta at *
    generalize thereB protoR l = tr at *
    generalize getV methodR l = vm at *
    generalize getV schemeR l = vs at *
    generalize getV pathR l = vp at *
    generalize hme : emp vm = me at *
    generalize hmc : conB vm = mc at *
    generalize hse : emp vs = se at *
    generalize hpe : emp vp = pe at *
    unfold emp at hme hse hpe
    unfold conB at hmc
    unfold methodR at hk1
    unfold schemeR at hk2
    unfold pathR at hk3
    cases mc with
    | true =>
      go_wp2_with fail
      refine (HT4.out _ rfl).mono ?_
      rintro e w2 ⟨rfl, rfl⟩
      cases tr with
      | true =>
        go_wp2_with fail
        refine (HT4.out _ rfl).mono ?_
        rintro e w2 ⟨rfl, rfl⟩
        cases me with
        | true =>
          go_wp2_with fail
          go_ret
          exact ⟨int_eq (by rw [HRR.out, HWB.out]; rfl), HBX.out⟩
        | false =>
          go_wp2_with fail
          refine (HT3.out _ rfl).mono ?_
          rintro e w2 ⟨rfl, rfl⟩
          cases ta with
          | true =>
            cases se with
            | true =>
              go_wp2_with fail
              go_ret
              exact ⟨int_eq (by rw [HRR.out, HWB.out]; rfl), HBX.out⟩
            | false =>
              cases pe with
              | true =>
                go_wp2_with fail
                go_ret
                exact ⟨int_eq (by rw [HRR.out, HWB.out]; rfl), HBX.out⟩
              | false =>
                have HX : Hid (r = (lenF l).2.2) := Lib.hid (by rw [HRR.out, HWB.out]; rfl)
                go_wp2_with fail
                refine (len_any A cap l _ (HL.out.below HBX.out) HM.out HF.out).mono ?_
                generalize lenF l = z at HX
                obtain ⟨z1, z2, z3⟩ := z
                rintro e w3 ⟨rfl, hb⟩
                have HB3 := Lib.hid (below_then HBX.out hb)
                clear hb
                go_wp2_with fail
                go_ret
                exact ⟨int_eq (by rw [HX.out]), HB3.out⟩
          | false =>
            go_wp2_with fail
            go_ret
            exact ⟨int_eq (by rw [HRR.out, HWB.out]; rfl), HBX.out⟩
      | false =>
        cases me with
        | true =>
          go_wp2_with fail
          go_ret
          exact ⟨int_eq (by rw [HRR.out, HWB.out]; rfl), HBX.out⟩
        | false =>
          go_wp2_with fail
          refine (HT1.out _ rfl).mono ?_
          rintro e w2 ⟨rfl, rfl⟩
          cases ts with
          | true =>
            go_wp2_with fail
            go_ret
            exact ⟨int_eq (by rw [HRR.out, HWB.out]; rfl), HBX.out⟩
          | false =>
            go_wp2_with fail
            refine (HT2.out _ rfl).mono ?_
            rintro e w2 ⟨rfl, rfl⟩
            cases tp with
            | true =>
              go_wp2_with fail
              go_ret
              exact ⟨int_eq (by rw [HRR.out, HWB.out]; rfl), HBX.out⟩
            | false =>
              go_wp2_with fail
              refine (HT3.out _ rfl).mono ?_
              rintro e w2 ⟨rfl, rfl⟩
              cases ta with
              | true =>
                have HX : Hid (r = (lenF l).2.2) := Lib.hid (by rw [HRR.out, HWB.out]; rfl)
                go_wp2_with fail
                refine (len_any A cap l _ (HL.out.below HBX.out) HM.out HF.out).mono ?_
                generalize lenF l = z at HX
                obtain ⟨z1, z2, z3⟩ := z
                rintro e w3 ⟨rfl, hb⟩
                have HB3 := Lib.hid (below_then HBX.out hb)
                clear hb
                go_wp2_with fail
                go_ret
                exact ⟨int_eq (by rw [HX.out]), HB3.out⟩
              | false =>
                go_wp2_with fail
                go_ret
                exact ⟨int_eq (by rw [HRR.out, HWB.out]; rfl), HBX.out⟩
    | false =>
      go_wp2_with fail
      refine (HT4.out _ rfl).mono ?_
      rintro e w2 ⟨rfl, rfl⟩
      cases tr with
      | true =>
        cases me with
        | true =>
          go_wp2_with fail
          go_ret
          exact ⟨int_eq (by rw [HRR.out, HWB.out]; rfl), HBX.out⟩
        | false =>
          go_wp2_with fail
          go_ret
          exact ⟨int_eq (by rw [HRR.out, HWB.out]; rfl), HBX.out⟩
      | false =>
        cases me with
        | true =>
          go_wp2_with fail
          go_ret
          exact ⟨int_eq (by rw [HRR.out, HWB.out]; rfl), HBX.out⟩
        | false =>
          cases se with
          | true =>
            go_wp2_with fail
            go_ret
            exact ⟨int_eq (by rw [HRR.out, HWB.out]; rfl), HBX.out⟩
          | false =>
            cases pe with
            | true =>
              go_wp2_with fail
              go_ret
              exact ⟨int_eq (by rw [HRR.out, HWB.out]; rfl), HBX.out⟩
            | false =>
              have HX : Hid (r = (lenF l).2.2) := Lib.hid (by rw [HRR.out, HWB.out]; rfl)
              go_wp2_with fail
              refine (len_any A cap l _ (HL.out.below HBX.out) HM.out HF.out).mono ?_
              generalize lenF l = z at HX
              obtain ⟨z1, z2, z3⟩ := z
              rintro e w3 ⟨rfl, hb⟩
              have HB3 := Lib.hid (below_then HBX.out hb)
              clear hb
              go_wp2_with fail
              go_ret
              exact ⟨int_eq (by rw [HX.out]), HB3.out⟩
end Go.Proofs.YtfljibjjpgdmhaaGreatDoor
