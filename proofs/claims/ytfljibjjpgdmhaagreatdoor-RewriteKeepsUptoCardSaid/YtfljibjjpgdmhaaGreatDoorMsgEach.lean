/- The walks of the reference's pseudo, has, each and Trailers at any list of allowed names. -/
import Derived.Test.YtfljibjjpgdmhaaGreatDoorMsgWalk
import Derived.Test.YtfljibjjpgdmhaaGreatDoorMsgRVal
set_option linter.unusedVariables false
set_option linter.unusedSimpArgs false
set_option linter.unusedSectionVars false
namespace Go.Proofs.YtfljibjjpgdmhaaGreatDoor
open Go.RowKit
theorem HdrsAt.take {w : World} {A : Option Addr} {l : List Hdr} (h : HdrsAt w A l) (k : Nat) : HdrsAt w A (l.take k) := by
  refine ⟨by simp, fun h0 => ?_⟩
  obtain ⟨a, ha, hb, hc⟩ := h.2 (by rw [List.length_take] at h0; omega)
  refine ⟨a, ha, hb, fun i cs hi => hc i cs ?_⟩
  rw [List.map_take, List.getElem?_take] at hi
  split at hi
  · exact hi
  · cases hi
theorem rfind_take (A : Option Addr) (cap : Nat) (l : List Hdr) (k : Nat) (hk : k ≤ l.length) (name : ByteArray) (w : World) (hl : HdrsAt w A l) (hm : l.length ≤ maxLen) :
    Calls Tryz.prog 33 #[.slice A k cap, .string name] w fun e w' => (∃ x, e = .returned (.tuple #[.string x, .bool (findH name (l.take k)).isSome])) ∧ w = w' := by
  have h := rfind_any A cap (l.take k) name w (hl.take k) (by rw [List.length_take]; omega)
  rw [List.length_take, Nat.min_eq_left hk] at h
  exact h.mono fun e w' ⟨he, hw⟩ => ⟨⟨_, he⟩, hw⟩
theorem pseu_empty (s : ByteArray) (h : s.size = 0) : pseuB s.data.toList = false := by
  have : s.data.toList = [] := List.eq_nil_of_length_eq_zero (by rw [size_toList]; exact h)
  rw [this]; rfl
theorem pseu_get (s : ByteArray) (h : 0 < s.size) : pseuB s.data.toList = decide (s[0].toNat = 58) := by
  cases hl : s.data.toList with
  | nil => rw [← size_toList, hl] at h; simp at h
  | cons b t =>
    have hb : s[0] = b := by
      have := get_toList s 0 h
      rw [← this]; simp [hl]
    rw [hb]
    show List.isPrefixOf [58] (b :: t) = _
    simp only [List.isPrefixOf, Bool.and_true]
    rw [Bool.eq_iff_iff, beq_iff_eq, decide_eq_true_eq]
    constructor
    · intro e; rw [← e]; rfl
    · intro e; exact UInt8.toNat_inj.1 (by rw [e]; rfl)
theorem rest_yes (s : ByteArray) (h : pseuB s.data.toList = true) : 1 ≤ s.size ∧ (s.extract 1 s.size).data.toList = restL s.data.toList := by
  have h1 : 1 ≤ s.size := by
    rcases Nat.eq_zero_or_pos s.size with h0 | h0
    · rw [pseu_empty s h0] at h; cases h
    · exact h0
  refine ⟨h1, ?_⟩
  unfold restL Lib.trimPrefix
  rw [show Lib.hasPrefix s.data.toList [58] = true from h]
  simp [ByteArray.data_extract, Array.toList_extract, List.extract]
  exact List.take_of_length_le (by rw [List.length_tail, size_toList]; exact Nat.le_refl _)
theorem rest_no (s : ByteArray) (h : pseuB s.data.toList = false) : restL s.data.toList = s.data.toList := by
  unfold restL Lib.trimPrefix
  rw [show Lib.hasPrefix s.data.toList [58] = false from h]
  rfl
set_option maxHeartbeats 1000000 in
set_option maxRecDepth 100000 in
theorem rpseudo_any (s : ByteArray) (w : World) (hs : s.size ≤ maxLen) : Calls Tryz.prog 43 #[.string s] w fun e w' => e = .returned (.bool (pseuB s.data.toList)) ∧ w = w' := by
  unfold maxLen at hs
  by_cases h0 : s.size = 0
  · have HP := Lib.hid (pseu_empty s h0)
    go_enter Tryz.func43, Tryz.ntmps43
    go_wp2_with fail
    go_ret
    exact ⟨bool_eq (by rw [HP.out]), rfl⟩
  · have hp : 0 < s.size := by omega
    have HP := Lib.hid (pseu_get s hp)
    have hb := byte_lt s[0]
    generalize hx : s[0] = x at *
    go_enter Tryz.func43, Tryz.ntmps43
    go_wp2_with fail
    all_goals
      go_ret
      exact ⟨bool_eq (by rw [HP.out]; simp [beq_num]), rfl⟩
set_option maxHeartbeats 1000000 in
set_option maxRecDepth 100000 in
theorem rhas13_any (B : Option Addr) (may : List ByteArray) (cap : Nat) (hm : may.length ≤ 1000) (n : ByteArray) (w : World) (hB : StrsAt w B may) :
    Calls Tryz.prog 46 #[.slice B may.length cap, .string n] w fun e w' => e = .returned (.bool (hasN may n)) ∧ w = w' := by
  have HB := Lib.hid hB
  clear hB
  go_enter Tryz.func46, Tryz.ntmps46
  go_wp2_with fail
  go_loop [5] (fun i => ∃ k : Nat, k ≤ may.length ∧ i = .int .i64 k ∧ Hid (Upto (fun j => ∀ h : j < may.length, (may[j].toList == n.toList) = false) k)) (fun i => may.length - (intOf i).toNat)
  case atStart => exact ⟨0, by omega, rfl, Lib.hid (Upto.zero _)⟩
  case round =>
    obtain ⟨k, hk, rfl, HM⟩ := hrel
    by_cases hlt : k < may.length
    · obtain ⟨b, o, rfl, c0, _⟩ := HB.out.get k hlt
      cases he : (may[k].toList == n.toList) with
      | true =>
        have HR := Lib.hid (hasN_hit hlt he)
        go_wp2_with fail
        go_ret
        exact ⟨bool_eq (by rw [HR.out]), rfl⟩
      | false =>
        have HE := Lib.hid he
        go_wp2_with fail
        go_round
        case rel => exact ⟨k + 1, by omega, by go_num, Lib.hid (HM.out.succ (fun _ => HE.out))⟩
        case measure => simp [intOf]; omega
    · obtain rfl : k = may.length := by omega
      have HR := Lib.hid (hasN_end HM.out)
      go_wp2_with fail
      go_ret
      exact ⟨bool_eq (by rw [HR.out]), rfl⟩
set_option maxHeartbeats 4000000 in
set_option maxRecDepth 100000 in
theorem each_any (A : Option Addr) (cap : Nat) (l : List Hdr) (B : Option Addr) (may : List ByteArray) (hmay : may.length ≤ 1000) (w : World) (hB : StrsAt w B may) (hl : HdrsAt w A l) (hm : l.length ≤ maxLen) (hcap : l.length ≤ cap) (hf : ∀ y ∈ l, y.fits) :
    Calls Tryz.prog 30 #[.slice A l.length cap, .slice B may.length may.length] w fun e w' => e = .returned (.int .i64 (walkF may l)) ∧ Below w.heap.size w w' := by
  have HMX := Lib.hid hm
  unfold maxLen at hm
  have HL := Lib.hid hl
  have HF := Lib.hid hf
  have HBM := Lib.hid hB
  have HMAY := Lib.hid hmay
  clear hl hf hB
  go_enter Tryz.func30, Tryz.ntmps30
  go_wp2_with fail
  go_loopw [5, 6] (fun v5 i wr => ∃ (p : Bool) (k : Nat), v5 = .bool p ∧ k ≤ l.length ∧ i = .int .i64 k ∧ Hid (p = plainB (l.take k)) ∧ Hid (walkF may l = walkG may (l.take k) (l.drop k)) ∧ Hid (Below w.heap.size w wr)) (fun _ i _ => l.length - (intOf i).toNat)
  case atStart => exact ⟨false, 0, rfl, by omega, rfl, Lib.hid rfl, Lib.hid (by simp [walkF]), Lib.hid (Below.refl _ _)⟩
  case round =>
    obtain ⟨p, k, rfl, hk, rfl, HP, HM, HB⟩ := hrel
    by_cases hlt : k < l.length
    · have hkc : k ≤ cap := by omega
      have HFC : Hid (∀ (nm : ByteArray) (w2 : World), w2 = wr → Calls Tryz.prog 33 #[.slice A k cap, .string nm] w2 fun e w' => (∃ x, e = .returned (.tuple #[.string x, .bool (findH nm (l.take k)).isSome])) ∧ w2 = w') := Lib.hid (fun nm w2 e2 => by subst e2; exact rfind_take A cap l k hk nm _ (HL.out.below HB.out) HMX.out)
      obtain ⟨ad, rfl, c0, c1, c2, hblk⟩ := (HL.out.below HB.out).get k hlt
      obtain ⟨fit1, fit2⟩ := HF.out l[k] (List.getElem_mem hlt)
      have HHC : Hid (∀ (nm : ByteArray) (w2 : World), w2 = wr → Calls Tryz.prog 46 #[.slice B may.length may.length, .string nm] w2 fun e w' => e = .returned (.bool (hasN may nm)) ∧ w2 = w') := Lib.hid (fun nm w2 e2 => by subst e2; exact rhas13_any B may _ HMAY.out nm _ (HBM.out.below HB.out))
      generalize hh : l[k] = h at *
      have HH := Lib.hid hh
      clear hh
      obtain ⟨n, v, b⟩ := h
      simp only at c0 c1 c2 fit1 fit2
      have FIT := Lib.hid (And.intro fit1 fit2)
      clear fit1 fit2
      generalize hvl : valueB v.data.toList = vl
      have HVL := Lib.hid hvl
      have HVC : Hid (∀ w, Calls Tryz.prog 45 #[.string v] w fun e w' => e = .returned (.bool vl) ∧ w = w') := Lib.hid (fun w => by rw [← hvl]; exact rvalue_any v w FIT.out.2)
      generalize hnm : nameB (restL n.data.toList) = nm
      have HNM := Lib.hid hnm
      generalize hps : pseuB n.data.toList = ps
      have HPS := Lib.hid hps
      have HPC : Hid (∀ w, Calls Tryz.prog 43 #[.string n] w fun e w' => e = .returned (.bool ps) ∧ w = w') := Lib.hid (fun w => by rw [← hps]; exact rpseudo_any n w FIT.out.1)
      clear hvl hnm hps
      cases ps with
      | true =>
        obtain ⟨r1, r2⟩ := rest_yes n HPS.out
        have HNC : Hid (∀ w, Calls Tryz.prog 44 #[.string (n.extract 1 n.size)] w fun e w' => e = .returned (.bool nm) ∧ w = w') := Lib.hid (fun w => by
          have := rname_any (n.extract 1 n.size) w (Nat.le_trans (by rw [ByteArray.size_extract]; omega) FIT.out.1)
          rw [r2, HNM.out] at this; exact this)
        clear r2
        cases nm with
        | false =>
          have HK : Hid (walkF may l = 130) := Lib.hid (walk_hit HM.out hlt (by rw [HH.out, codeW, if_pos HNM.out]) (by decide))
          go_wp2_with (first | (go_at_call 43; refine (HPC.out _).mono ?_; rintro e w1 ⟨rfl, rfl⟩) | (go_at_call 44; refine (HNC.out _).mono ?_; rintro e w1 ⟨rfl, rfl⟩) | (go_at_call 45; refine (HVC.out _).mono ?_; rintro e w1 ⟨rfl, rfl⟩))
          go_ret
          exact ⟨int_eq (by rw [HK.out]), HB.out⟩
        | true =>
          have HN1 : Hid (¬ nameB (restL n.data.toList) = false) := Lib.hid (by rw [HNM.out]; simp)
          cases vl with
          | false =>
            have HK : Hid (walkF may l = 131) := Lib.hid (walk_hit HM.out hlt (by rw [HH.out, codeW, if_neg HN1.out, if_pos HVL.out]) (by decide))
            go_wp2_with (first | (go_at_call 43; refine (HPC.out _).mono ?_; rintro e w1 ⟨rfl, rfl⟩) | (go_at_call 44; refine (HNC.out _).mono ?_; rintro e w1 ⟨rfl, rfl⟩) | (go_at_call 45; refine (HVC.out _).mono ?_; rintro e w1 ⟨rfl, rfl⟩))
            go_ret
            exact ⟨int_eq (by rw [HK.out]), HB.out⟩
          | true =>
            have HN2 : Hid (¬ valueB v.data.toList = false) := Lib.hid (by rw [HVL.out]; simp)
            have HCW : Hid (codeW may (l.take k) l[k] = if (p || (findH n (l.take k)).isSome || !hasN may n) = true then 132 else 0) := Lib.hid (by rw [HH.out, codeW, if_neg HN1.out, if_neg HN2.out, if_pos HPS.out, ← HP.out])
            have HPK : Hid (isPs l[k] = true) := Lib.hid (by rw [HH.out]; exact HPS.out)
            generalize htw : (findH n (l.take k)).isSome = tw at HCW
            have HTW := Lib.hid htw
            clear htw
            generalize hal : hasN may n = al at HCW
            have HAL := Lib.hid hal
            clear hal
            have HFC2 : Hid (∀ w2, w2 = wr → Calls Tryz.prog 33 #[.slice (some ad) k cap, .string n] w2 fun e w' => (∃ x, e = .returned (.tuple #[.string x, .bool tw])) ∧ w2 = w') := Lib.hid (fun w2 e2 => by rw [← HTW.out]; exact HFC.out n w2 e2)
            have HHC2 : Hid (∀ w2, w2 = wr → Calls Tryz.prog 46 #[.slice B may.length may.length, .string n] w2 fun e w' => e = .returned (.bool al) ∧ w2 = w') := Lib.hid (fun w2 e2 => by rw [← HAL.out]; exact HHC.out n w2 e2)
            clear HFC HHC
            cases p with
            | true =>
              have HK : Hid (walkF may l = 132) := Lib.hid (walk_hit HM.out hlt (by rw [HCW.out]; rfl) (by decide))
              go_wp2_with (first | (go_at_call 43; refine (HPC.out _).mono ?_; rintro e w1 ⟨rfl, rfl⟩) | (go_at_call 44; refine (HNC.out _).mono ?_; rintro e w1 ⟨rfl, rfl⟩) | (go_at_call 45; refine (HVC.out _).mono ?_; rintro e w1 ⟨rfl, rfl⟩) | (go_at_call 33; refine (HFC2.out _ rfl).mono ?_; rintro e w1 ⟨⟨x, rfl⟩, rfl⟩) | (go_at_call 46; refine (HHC2.out _ rfl).mono ?_; rintro e w1 ⟨rfl, rfl⟩))
              all_goals go_ret
              all_goals exact ⟨int_eq (by rw [HK.out]), HB.out⟩
            | false =>
              cases tw with
              | true =>
                have HK : Hid (walkF may l = 132) := Lib.hid (walk_hit HM.out hlt (by rw [HCW.out]; rfl) (by decide))
                go_wp2_with (first | (go_at_call 43; refine (HPC.out _).mono ?_; rintro e w1 ⟨rfl, rfl⟩) | (go_at_call 44; refine (HNC.out _).mono ?_; rintro e w1 ⟨rfl, rfl⟩) | (go_at_call 45; refine (HVC.out _).mono ?_; rintro e w1 ⟨rfl, rfl⟩) | (go_at_call 33; refine (HFC2.out _ rfl).mono ?_; rintro e w1 ⟨⟨x, rfl⟩, rfl⟩) | (go_at_call 46; refine (HHC2.out _ rfl).mono ?_; rintro e w1 ⟨rfl, rfl⟩))
                all_goals go_ret
                all_goals exact ⟨int_eq (by rw [HK.out]), HB.out⟩
              | false =>
                cases al with
                | false =>
                  have HK : Hid (walkF may l = 132) := Lib.hid (walk_hit HM.out hlt (by rw [HCW.out]; rfl) (by decide))
                  go_wp2_with (first | (go_at_call 43; refine (HPC.out _).mono ?_; rintro e w1 ⟨rfl, rfl⟩) | (go_at_call 44; refine (HNC.out _).mono ?_; rintro e w1 ⟨rfl, rfl⟩) | (go_at_call 45; refine (HVC.out _).mono ?_; rintro e w1 ⟨rfl, rfl⟩) | (go_at_call 33; refine (HFC2.out _ rfl).mono ?_; rintro e w1 ⟨⟨x, rfl⟩, rfl⟩) | (go_at_call 46; refine (HHC2.out _ rfl).mono ?_; rintro e w1 ⟨rfl, rfl⟩))
                  all_goals go_ret
                  all_goals exact ⟨int_eq (by rw [HK.out]), HB.out⟩
                | true =>
                  have HZ : Hid (codeW may (l.take k) l[k] = 0) := Lib.hid (by rw [HCW.out]; rfl)
                  go_wp2_with (first | (go_at_call 43; refine (HPC.out _).mono ?_; rintro e w1 ⟨rfl, rfl⟩) | (go_at_call 44; refine (HNC.out _).mono ?_; rintro e w1 ⟨rfl, rfl⟩) | (go_at_call 45; refine (HVC.out _).mono ?_; rintro e w1 ⟨rfl, rfl⟩) | (go_at_call 33; refine (HFC2.out _ rfl).mono ?_; rintro e w1 ⟨⟨x, rfl⟩, rfl⟩) | (go_at_call 46; refine (HHC2.out _ rfl).mono ?_; rintro e w1 ⟨rfl, rfl⟩))
                  go_roundw
                  case rel => exact ⟨false, k + 1, rfl, by omega, by go_num, Lib.hid (by rw [plain_next hlt HPK.out]; exact HP.out), Lib.hid (walk_next HM.out hlt HZ.out), HB⟩
                  case measure => simp [intOf]; omega
      | false =>
        have HNC : Hid (∀ w, Calls Tryz.prog 44 #[.string n] w fun e w' => e = .returned (.bool nm) ∧ w = w') := Lib.hid (fun w => by
          have := rname_any n w FIT.out.1
          rw [← rest_no n HPS.out, HNM.out] at this; exact this)
        cases nm with
        | false =>
          have HK : Hid (walkF may l = 130) := Lib.hid (walk_hit HM.out hlt (by rw [HH.out, codeW, if_pos HNM.out]) (by decide))
          go_wp2_with (first | (go_at_call 43; refine (HPC.out _).mono ?_; rintro e w1 ⟨rfl, rfl⟩) | (go_at_call 44; refine (HNC.out _).mono ?_; rintro e w1 ⟨rfl, rfl⟩) | (go_at_call 45; refine (HVC.out _).mono ?_; rintro e w1 ⟨rfl, rfl⟩))
          go_ret
          exact ⟨int_eq (by rw [HK.out]), HB.out⟩
        | true =>
          have HN1 : Hid (¬ nameB (restL n.data.toList) = false) := Lib.hid (by rw [HNM.out]; simp)
          cases vl with
          | false =>
            have HK : Hid (walkF may l = 131) := Lib.hid (walk_hit HM.out hlt (by rw [HH.out, codeW, if_neg HN1.out, if_pos HVL.out]) (by decide))
            go_wp2_with (first | (go_at_call 43; refine (HPC.out _).mono ?_; rintro e w1 ⟨rfl, rfl⟩) | (go_at_call 44; refine (HNC.out _).mono ?_; rintro e w1 ⟨rfl, rfl⟩) | (go_at_call 45; refine (HVC.out _).mono ?_; rintro e w1 ⟨rfl, rfl⟩))
            go_ret
            exact ⟨int_eq (by rw [HK.out]), HB.out⟩
          | true =>
            have HN2 : Hid (¬ valueB v.data.toList = false) := Lib.hid (by rw [HVL.out]; simp)
            have HN3 : Hid (¬ pseuB n.data.toList = true) := Lib.hid (by rw [HPS.out]; simp)
            generalize hbd : boundB n v = bd
            have HBD := Lib.hid hbd
            clear hbd
            go_wp2_with (first | (go_at_call 43; refine (HPC.out _).mono ?_; rintro e w1 ⟨rfl, rfl⟩) | (go_at_call 44; refine (HNC.out _).mono ?_; rintro e w1 ⟨rfl, rfl⟩) | (go_at_call 45; refine (HVC.out _).mono ?_; rintro e w1 ⟨rfl, rfl⟩))
            refine (rbound_any n v b _).mono ?_
            rw [HBD.out]
            rintro e w4 ⟨rfl, hb⟩
            have HB4 := Lib.hid (below_then HB.out hb)
            clear hb
            cases bd with
            | true =>
              have HK : Hid (walkF may l = 133) := Lib.hid (walk_hit HM.out hlt (by rw [HH.out, codeW, if_neg HN1.out, if_neg HN2.out, if_neg HN3.out, if_pos HBD.out]) (by decide))
              go_wp2_with fail
              go_ret
              exact ⟨int_eq (by rw [HK.out]), HB4.out⟩
            | false =>
              have HPK : Hid (isPs l[k] = false) := Lib.hid (by rw [HH.out]; exact HPS.out)
              have HZ : Hid (codeW may (l.take k) l[k] = 0) := Lib.hid (by rw [HH.out, codeW, if_neg HN1.out, if_neg HN2.out, if_neg HN3.out, if_neg (by rw [HBD.out]; simp)])
              go_wp2_with fail
              go_roundw
              case rel => exact ⟨true, k + 1, rfl, by omega, by go_num, Lib.hid (by rw [plain_yes hlt HPK.out]), Lib.hid (walk_next HM.out hlt HZ.out), HB4⟩
              case measure => simp [intOf]; omega
    · obtain rfl : k = l.length := by omega
      have HR := Lib.hid (walk_end HM.out)
      go_wp2_with fail
      go_ret
      exact ⟨int_eq (by rw [HR.out]), HB.out⟩
end Go.Proofs.YtfljibjjpgdmhaaGreatDoor
