/- The walks of the reference's pseudo, has, each and Trailers where no pseudo header may stand. -/
import Derived.Test.YtcfnnpjdmicmoaaDoorMsgTrail
import Derived.Test.YtcfnnpjdmicmoaaDoorLawMessageValues
namespace Go.Proofs.YtcfnnpjdmicmoaaDoor
open Go.RowKit
theorem HdrsAt.take {w : World} {A : Option Addr} {l : List Hdr} (h : HdrsAt w A l) (k : Nat) : HdrsAt w A (l.take k) := by
  refine ⟨by simp, fun h0 => ?_⟩
  obtain ⟨a, ha, hb, hc⟩ := h.2 (by rw [List.length_take] at h0; omega)
  refine ⟨a, ha, hb, fun i cs hi => hc i cs ?_⟩
  rw [List.map_take, List.getElem?_take] at hi
  split at hi
  · exact hi
  · cases hi
theorem rfind_take (A : Option Addr) (cap : Nat) (l : List Hdr) (k : Nat) (hk : k ≤ l.length) (name : ByteArray) (w : World) (hl : HdrsAt w A l) (hm : l.length ≤ maxLen) :
    Calls Tryd.prog 29 #[.slice A k cap, .string name] w fun e w' => (∃ x y, e = .returned (.tuple #[.string x, .bool y])) ∧ w = w' := by
  have h := rfind_any A cap (l.take k) name w (hl.take k) (by rw [List.length_take]; omega)
  rw [List.length_take, Nat.min_eq_left hk] at h
  exact h.mono fun e w' ⟨he, hw⟩ => ⟨⟨_, _, he⟩, hw⟩
theorem pseu_empty (s : ByteArray) (h : s.size = 0) : pseuB s.data.toList = false := by
  have : s.data.toList = [] := List.eq_nil_of_length_eq_zero (by rw [size_toList]; exact h)
  rw [this]; rfl
theorem pseu_get (s : ByteArray) (h : 0 < s.size) : pseuB s.data.toList = decide (s[0].toNat = 58) := by
  cases hl : s.data.toList with
  | nil => rw [← size_toList, hl] at h; simp at h
  | cons b t =>
    have hb : s[0] = b := by
      have := get_toList s 0 h
      rw [← this]; simp [hl]
    rw [hb]
    show List.isPrefixOf [58] (b :: t) = _
    simp only [List.isPrefixOf, Bool.and_true]
    rw [Bool.eq_iff_iff, beq_iff_eq, decide_eq_true_eq]
    constructor
    · intro e; rw [← e]; rfl
    · intro e; exact UInt8.toNat_inj.1 (by rw [e]; rfl)
theorem rest_yes (s : ByteArray) (h : pseuB s.data.toList = true) : 1 ≤ s.size ∧ (s.extract 1 s.size).data.toList = restL s.data.toList := by
  have h1 : 1 ≤ s.size := by
    rcases Nat.eq_zero_or_pos s.size with h0 | h0
    · rw [pseu_empty s h0] at h; cases h
    · exact h0
  refine ⟨h1, ?_⟩
  unfold restL Lib.trimPrefix
  rw [show Lib.hasPrefix s.data.toList [58] = true from h]
  simp [ByteArray.data_extract, Array.toList_extract, List.extract]
  exact List.take_of_length_le (by rw [List.length_tail, size_toList]; exact Nat.le_refl _)
theorem rest_no (s : ByteArray) (h : pseuB s.data.toList = false) : restL s.data.toList = s.data.toList := by
  unfold restL Lib.trimPrefix
  rw [show Lib.hasPrefix s.data.toList [58] = false from h]
  rfl
set_option maxHeartbeats 1000000 in
set_option maxRecDepth 100000 in
theorem rpseudo_any (s : ByteArray) (w : World) (hs : s.size ≤ maxLen) : Calls Tryd.prog 45 #[.string s] w fun e w' => e = .returned (.bool (pseuB s.data.toList)) ∧ w = w' := by
  unfold maxLen at hs
  by_cases h0 : s.size = 0
  · have HP := Lib.hid (pseu_empty s h0)
    go_enter Tryd.func45, Tryd.ntmps45
    go_wp2_with fail
    go_ret
    exact ⟨bool_eq (by rw [HP.out]), rfl⟩
  · have hp : 0 < s.size := by omega
    have HP := Lib.hid (pseu_get s hp)
    have hb := byte_lt s[0]
    generalize hx : s[0] = x at *
    go_enter Tryd.func45, Tryd.ntmps45
    go_wp2_with fail
    all_goals
      go_ret
      exact ⟨bool_eq (by rw [HP.out]; simp [beq_num]), rfl⟩
set_option maxHeartbeats 1000000 in
set_option maxRecDepth 100000 in
theorem rhas0_any (s : ByteArray) (w : World) : Calls Tryd.prog 47 #[.slice none 0 0, .string s] w fun e w' => e = .returned (.bool false) ∧ w = w' := by
  go_enter Tryd.func47, Tryd.ntmps47
  go_wp2_with fail
  go_loop [5] (fun i => i = .int .i64 0) (fun _ => 0)
  case atStart => rfl
  case round =>
    obtain rfl := hrel
    go_wp2_with fail
    go_ret
    exact ⟨rfl, rfl⟩
set_option maxHeartbeats 4000000 in
set_option maxRecDepth 100000 in
theorem each0_any (A : Option Addr) (cap : Nat) (l : List Hdr) (w : World) (hl : HdrsAt w A l) (hm : l.length ≤ maxLen) (hcap : l.length ≤ cap) (hf : ∀ y ∈ l, y.fits) :
    Calls Tryd.prog 25 #[.slice A l.length cap, .slice none 0 0] w fun e w' => e = .returned (.int .i64 (trailF l)) ∧ Below w.heap.size w w' := by
  have HMX := Lib.hid hm
  unfold maxLen at hm
  have HL := Lib.hid hl
  have HF := Lib.hid hf
  clear hl hf
  go_enter Tryd.func25, Tryd.ntmps25
  go_wp2_with fail
  go_loopw [5, 6] (fun v5 i wr => ∃ (p : Bool) (k : Nat), v5 = .bool p ∧ k ≤ l.length ∧ i = .int .i64 k ∧ Hid (Upto (fun j => ∀ h : j < l.length, codeT l[j] = 0) k) ∧ Hid (Below w.heap.size w wr)) (fun _ i _ => l.length - (intOf i).toNat)
  case atStart => exact ⟨false, 0, rfl, by omega, rfl, Lib.hid (Upto.zero _), Lib.hid (Below.refl _ _)⟩
  case round =>
    obtain ⟨p, k, rfl, hk, rfl, HM, HB⟩ := hrel
    by_cases hlt : k < l.length
    · have hkc : k ≤ cap := by omega
      have HFC : Hid (∀ (nm : ByteArray) (w2 : World), w2 = wr → Calls Tryd.prog 29 #[.slice A k cap, .string nm] w2 fun e w' => (∃ x y, e = .returned (.tuple #[.string x, .bool y])) ∧ w2 = w') := Lib.hid (fun nm w2 e2 => by subst e2; exact rfind_take A cap l k hk nm _ (HL.out.below HB.out) HMX.out)
      obtain ⟨ad, rfl, c0, c1, c2, hblk⟩ := (HL.out.below HB.out).get k hlt
      obtain ⟨fit1, fit2⟩ := HF.out l[k] (List.getElem_mem hlt)
      generalize hh : l[k] = h at *
      obtain ⟨n, v, b⟩ := h
      simp only at c0 c1 c2 fit1 fit2
      have FIT := Lib.hid (And.intro fit1 fit2)
      clear fit1 fit2
      generalize hvl : valueB v.data.toList = vl
      have HVL := Lib.hid hvl
      have HVC : Hid (∀ w, Calls Tryd.prog 10 #[.string v] w fun e w' => e = .returned (.bool vl) ∧ w = w') := Lib.hid (fun w => by rw [← hvl]; exact rvalue_any v w FIT.out.2)
      generalize hnm : nameB (restL n.data.toList) = nm
      have HNM := Lib.hid hnm
      generalize hps : pseuB n.data.toList = ps
      have HPS := Lib.hid hps
      have HPC : Hid (∀ w, Calls Tryd.prog 45 #[.string n] w fun e w' => e = .returned (.bool ps) ∧ w = w') := Lib.hid (fun w => by rw [← hps]; exact rpseudo_any n w FIT.out.1)
      clear hvl hnm hps
      cases ps with
      | true =>
        obtain ⟨r1, r2⟩ := rest_yes n HPS.out
        have HNC : Hid (∀ w, Calls Tryd.prog 46 #[.string (n.extract 1 n.size)] w fun e w' => e = .returned (.bool nm) ∧ w = w') := Lib.hid (fun w => by
          have := rname_any (n.extract 1 n.size) w (Nat.le_trans (by rw [ByteArray.size_extract]; omega) FIT.out.1)
          rw [r2, HNM.out] at this; exact this)
        clear r2
        cases nm with
        | false =>
          have HK : Hid (trailF l = 130) := Lib.hid (trail_hit hlt HM.out (by rw [hh, codeT, if_pos HNM.out]) (by decide))
          go_wp2_with (first | (go_at_call 45; refine (HPC.out _).mono ?_; rintro e w1 ⟨rfl, rfl⟩) | (go_at_call 46; refine (HNC.out _).mono ?_; rintro e w1 ⟨rfl, rfl⟩) | (go_at_call 10; refine (HVC.out _).mono ?_; rintro e w1 ⟨rfl, rfl⟩))
          go_ret
          exact ⟨int_eq (by rw [HK.out]), HB.out⟩
        | true =>
          have HN1 : Hid (¬ nameB (restL n.data.toList) = false) := Lib.hid (by rw [HNM.out]; simp)
          cases vl with
          | false =>
            have HK : Hid (trailF l = 131) := Lib.hid (trail_hit hlt HM.out (by rw [hh, codeT, if_neg HN1.out, if_pos HVL.out]) (by decide))
            go_wp2_with (first | (go_at_call 45; refine (HPC.out _).mono ?_; rintro e w1 ⟨rfl, rfl⟩) | (go_at_call 46; refine (HNC.out _).mono ?_; rintro e w1 ⟨rfl, rfl⟩) | (go_at_call 10; refine (HVC.out _).mono ?_; rintro e w1 ⟨rfl, rfl⟩))
            go_ret
            exact ⟨int_eq (by rw [HK.out]), HB.out⟩
          | true =>
            have HN2 : Hid (¬ valueB v.data.toList = false) := Lib.hid (by rw [HVL.out]; simp)
            have HK : Hid (trailF l = 132) := Lib.hid (trail_hit hlt HM.out (by rw [hh, codeT, if_neg HN1.out, if_neg HN2.out, if_pos HPS.out]) (by decide))
            cases p with
            | true =>
              go_wp2_with (first | (go_at_call 45; refine (HPC.out _).mono ?_; rintro e w1 ⟨rfl, rfl⟩) | (go_at_call 46; refine (HNC.out _).mono ?_; rintro e w1 ⟨rfl, rfl⟩) | (go_at_call 10; refine (HVC.out _).mono ?_; rintro e w1 ⟨rfl, rfl⟩) | (go_at_call 29; refine (HFC.out _ _ rfl).mono ?_; rintro e w1 ⟨⟨x, y, rfl⟩, rfl⟩) | (go_at_call 47; refine (rhas0_any _ _).mono ?_; rintro e w1 ⟨rfl, rfl⟩))
              all_goals go_ret
              all_goals exact ⟨int_eq (by rw [HK.out]), HB.out⟩
            | false =>
              go_wp2_with (first | (go_at_call 45; refine (HPC.out _).mono ?_; rintro e w1 ⟨rfl, rfl⟩) | (go_at_call 46; refine (HNC.out _).mono ?_; rintro e w1 ⟨rfl, rfl⟩) | (go_at_call 10; refine (HVC.out _).mono ?_; rintro e w1 ⟨rfl, rfl⟩) | (go_at_call 29; refine (HFC.out _ _ rfl).mono ?_; rintro e w1 ⟨⟨x, y, rfl⟩, rfl⟩) | (go_at_call 47; refine (rhas0_any _ _).mono ?_; rintro e w1 ⟨rfl, rfl⟩))
              all_goals go_ret
              all_goals exact ⟨int_eq (by rw [HK.out]), HB.out⟩
      | false =>
        have HNC : Hid (∀ w, Calls Tryd.prog 46 #[.string n] w fun e w' => e = .returned (.bool nm) ∧ w = w') := Lib.hid (fun w => by
          have := rname_any n w FIT.out.1
          rw [← rest_no n HPS.out, HNM.out] at this; exact this)
        cases nm with
        | false =>
          have HK : Hid (trailF l = 130) := Lib.hid (trail_hit hlt HM.out (by rw [hh, codeT, if_pos HNM.out]) (by decide))
          go_wp2_with (first | (go_at_call 45; refine (HPC.out _).mono ?_; rintro e w1 ⟨rfl, rfl⟩) | (go_at_call 46; refine (HNC.out _).mono ?_; rintro e w1 ⟨rfl, rfl⟩) | (go_at_call 10; refine (HVC.out _).mono ?_; rintro e w1 ⟨rfl, rfl⟩))
          go_ret
          exact ⟨int_eq (by rw [HK.out]), HB.out⟩
        | true =>
          have HN1 : Hid (¬ nameB (restL n.data.toList) = false) := Lib.hid (by rw [HNM.out]; simp)
          cases vl with
          | false =>
            have HK : Hid (trailF l = 131) := Lib.hid (trail_hit hlt HM.out (by rw [hh, codeT, if_neg HN1.out, if_pos HVL.out]) (by decide))
            go_wp2_with (first | (go_at_call 45; refine (HPC.out _).mono ?_; rintro e w1 ⟨rfl, rfl⟩) | (go_at_call 46; refine (HNC.out _).mono ?_; rintro e w1 ⟨rfl, rfl⟩) | (go_at_call 10; refine (HVC.out _).mono ?_; rintro e w1 ⟨rfl, rfl⟩))
            go_ret
            exact ⟨int_eq (by rw [HK.out]), HB.out⟩
          | true =>
            have HN2 : Hid (¬ valueB v.data.toList = false) := Lib.hid (by rw [HVL.out]; simp)
            have HN3 : Hid (¬ pseuB n.data.toList = true) := Lib.hid (by rw [HPS.out]; simp)
            generalize hbd : boundB n v = bd
            have HBD := Lib.hid hbd
            clear hbd
            go_wp2_with (first | (go_at_call 45; refine (HPC.out _).mono ?_; rintro e w1 ⟨rfl, rfl⟩) | (go_at_call 46; refine (HNC.out _).mono ?_; rintro e w1 ⟨rfl, rfl⟩) | (go_at_call 10; refine (HVC.out _).mono ?_; rintro e w1 ⟨rfl, rfl⟩))
            refine (rbound_any n v b _).mono ?_
            rw [HBD.out]
            rintro e w4 ⟨rfl, hb⟩
            have HB4 := Lib.hid (below_then HB.out hb)
            clear hb
            cases bd with
            | true =>
              have HK : Hid (trailF l = 133) := Lib.hid (trail_hit hlt HM.out (by rw [hh, codeT, if_neg HN1.out, if_neg HN2.out, if_neg HN3.out, if_pos HBD.out]) (by decide))
              go_wp2_with fail
              go_ret
              exact ⟨int_eq (by rw [HK.out]), HB4.out⟩
            | false =>
              have HZ : Hid (codeT l[k] = 0) := Lib.hid (by rw [hh, codeT, if_neg HN1.out, if_neg HN2.out, if_neg HN3.out, if_neg (by rw [HBD.out]; simp)])
              go_wp2_with fail
              go_roundw
              case rel => exact ⟨true, k + 1, rfl, by omega, by go_num, Lib.hid (HM.out.succ (fun _ => HZ.out)), HB4⟩
              case measure => simp [intOf]; omega
    · obtain rfl : k = l.length := by omega
      have HR := Lib.hid (trail_end HM.out)
      go_wp2_with fail
      go_ret
      exact ⟨int_eq (by rw [HR.out]), HB.out⟩
end Go.Proofs.YtcfnnpjdmicmoaaDoor
