/- The walks of digits and Length, the program's and the reference's. -/
import Derived.Test.YtfljibjjpgdmhaaGreatDoorMsgFind
import Derived.Test.YtfljibjjpgdmhaaGreatDoorMsgLenPure
import Derived.Test.YtfljibjjpgdmhaaGreatDoorShelf
import Derived.Shelf.Strings.SlTrimAscii
import Derived.Lib.AtoiErrMem
set_option linter.unusedVariables false
set_option linter.unusedSimpArgs false
set_option linter.unusedSectionVars false
namespace Go.Proofs.YtfljibjjpgdmhaaGreatDoor
open Go.RowKit
theorem digits_eq (s : ByteArray) (h1 : 1 ≤ s.size) (h9 : s.size ≤ 9) : digitsB s = ((⟨(Lib.trimS s.data.toList digK.data.toList).toArray⟩ : ByteArray).toList == []) := by
  rw [ByteArray.toList_eq]
  show digitsB s = ((Lib.trimS s.data.toList digK.data.toList).toArray.toList == [])
  rw [List.toList_toArray]
  have : ∀ l : List UInt8, (l == []) = l.isEmpty := fun l => by cases l <;> rfl
  rw [this, trim_digits]
  simp [digitsB, h1, h9]
theorem toList_nil (s : ByteArray) : (s.toList == []) = decide (s.size = 0) := by
  rw [ByteArray.toList_eq, ← size_toList]
  cases s.data.toList <;> simp
set_option maxHeartbeats 1000000 in
set_option maxRecDepth 100000 in
theorem digits_any (s : ByteArray) (w : World) (hs : s.size ≤ maxLen) :
    Calls Tryz.prog 36 #[.string s, .int .i64 9] w fun e w' => e = .returned (.bool (digitsB s)) ∧ Below w.heap.size w w' := by
  unfold maxLen at hs
  by_cases h1 : 1 ≤ s.size
  · have e0 : (s.toList == []) = false := by rw [toList_nil]; exact decide_eq_false (by omega)
    by_cases h9 : s.size ≤ 9
    · have HD := Lib.hid (digits_eq s h1 h9)
      go_enter Tryz.func36, Tryz.ntmps36
      go_wp2_with fail
      refine (Any.strings_Trim_laid Tryz.lays160 (by kernel_rfl) s digK _ (by omega) (by decide) (ascii_of_all (by decide))).mono ?_
      rintro e w1 ⟨rfl, hb⟩
      have HB := Lib.hid hb
      clear hb
      generalize hq : (⟨(Lib.trimS s.data.toList digK.data.toList).toArray⟩ : ByteArray) = q
      rw [hq] at HD
      clear hq
      go_wp2_with fail
      all_goals
        go_ret
        exact ⟨bool_eq (by rw [HD.out]; cases q.toList <;> rfl), HB.out⟩
    · have hd : digitsB s = false := by simp [digitsB, h9]
      have HD := Lib.hid hd
      clear hd
      go_enter Tryz.func36, Tryz.ntmps36
      go_wp2_with fail
      all_goals
        go_ret
        exact ⟨bool_eq (by rw [HD.out]), Below.refl _ _⟩
  · have e0 : (s.toList == []) = true := by rw [toList_nil]; exact decide_eq_true (by omega)
    have hd : digitsB s = false := by simp [digitsB, h1]
    have HD := Lib.hid hd
    clear hd
    go_enter Tryz.func36, Tryz.ntmps36
    go_wp2_with fail
    all_goals
      go_ret
      exact ⟨bool_eq (by rw [HD.out]), Below.refl _ _⟩

theorem dig_no (s : ByteArray) (k : Nat) (h : k < s.size) (hf : isDig s[k] = false) : digitsB s = false := by
  unfold digitsB
  rw [all_false s k h _ hf]; simp
theorem dig_yes (s : ByteArray) (h : Upto (fun j => ∀ h : j < s.size, isDig s[j] = true) s.size) : digitsB s = (decide (1 ≤ s.size) && decide (s.size ≤ 9)) := by
  unfold digitsB
  rw [all_true s _ (fun j hj => h.out j hj hj)]; simp
set_option maxHeartbeats 1000000 in
set_option maxRecDepth 100000 in
theorem rdigits_any (s : ByteArray) (w : World) (hs : s.size ≤ maxLen) :
    Calls Tryz.prog 34 #[.string s] w fun e w' => e = .returned (.bool (digitsB s)) ∧ w = w' := by
  unfold maxLen at hs
  go_enter Tryz.func34, Tryz.ntmps34
  go_wp2
  go_loop [3] (fun i => ∃ k : Nat, k ≤ s.size ∧ i = .int .i64 k ∧ Upto (fun j => ∀ h : j < s.size, isDig s[j] = true) k) (fun i => s.size - (intOf i).toNat)
  case atStart => exact ⟨0, by omega, rfl, Upto.zero _⟩
  case round =>
    obtain ⟨k, hk, rfl, hm⟩ := hrel
    by_cases hlt : k < s.size
    · have hb := byte_lt s[k]
      cases hl : isDig s[k] with
      | false =>
        have HN := Lib.hid (dig_no s k hlt hl)
        have hb2 : s[k].toNat < 48 ∨ 57 < s[k].toNat := by simp [isDig] at hl; omega
        clear hl hm
        rcases hb2 with hb2 | hb2
        · go_wp2
          go_ret
          exact ⟨bool_eq (by rw [HN.out]), rfl⟩
        · have hb3 : ¬ s[k].toNat < 48 := by omega
          go_wp2
          go_ret
          exact ⟨bool_eq (by rw [HN.out]), rfl⟩
      | true =>
        have HL := Lib.hid hl
        have hb2 : 48 ≤ s[k].toNat ∧ s[k].toNat ≤ 57 := by simpa [isDig] using hl
        obtain ⟨hb2, hb3⟩ := hb2
        clear hl
        go_wp2
        go_round
        case rel => exact ⟨k + 1, by omega, by go_num, hm.succ (fun _ => HL.out)⟩
        case measure => simp [intOf]; omega
    · obtain rfl : k = s.size := by omega
      have HN := Lib.hid (dig_yes s hm)
      clear hm
      go_wp2
      all_goals
        go_ret
        refine ⟨bool_eq ?_, rfl⟩
        rw [HN.out]
        clear HN
        by_cases q1 : 1 ≤ s.size <;> by_cases q2 : s.size ≤ 9 <;> simp only [q1, q2, decide_true, decide_false, Bool.and_true, Bool.and_false] <;> first | rfl | (apply decide_eq_true; omega) | (apply decide_eq_false; omega) | (exfalso; omega)

theorem clK_list : clK.toList = [99, 111, 110, 116, 101, 110, 116, 45, 108, 101, 110, 103, 116, 104] := by rw [ByteArray.toList_eq]; rfl
def LenPost (r : Int × Bool × Int) (w : World) (e : Ending) (w' : World) : Prop := e = .returned (.tuple #[.int .i64 r.1, .bool r.2.1, .int .i64 r.2.2]) ∧ Below w.heap.size w w'
set_option maxHeartbeats 2000000 in
set_option maxRecDepth 100000 in
theorem rlen_any (A : Option Addr) (cap : Nat) (l : List Hdr) (w : World) (hl : HdrsAt w A l) (hm : l.length ≤ maxLen) (hf : ∀ y ∈ l, y.fits) :
    Calls Tryz.prog 32 #[.slice A l.length cap] w (LenPost (lenF l) w) := by
  unfold maxLen at hm
  have HL := Lib.hid hl
  have HF := Lib.hid hf
  clear hl hf
  generalize hfd : findH clK l = fd
  have HFD := Lib.hid hfd
  clear hfd
  go_enter Tryz.func32, Tryz.ntmps32
  go_wp2_with fail
  refine (rfind_any A cap l clK _ HL.out (by unfold maxLen; omega)).mono ?_
  rw [HFD.out]
  rintro e w1 ⟨rfl, rfl⟩
  cases fd with
  | none =>
    have HR : Hid (lenF l = (0, false, 0)) := Lib.hid (by rw [lenF, HFD.out, none_good _ HFD.out]; rfl)
    go_wp2_with fail
    go_ret3
    exact ⟨by rw [HR.out]; rfl, Below.refl _ _⟩
  | some f =>
    simp only [Option.getD_some, Option.isSome_some]
    go_wp2_with fail
    go_loop [7] (fun i => ∃ k : Nat, k ≤ l.length ∧ i = .int .i64 k ∧ Upto (fun j => ∀ h : j < l.length, badH f l[j] = false) k) (fun i => l.length - (intOf i).toNat)
    case atStart => exact ⟨0, by omega, rfl, Upto.zero _⟩
    case round =>
      obtain ⟨k, hk, rfl, hm⟩ := hrel
      have HM := Lib.hid hm
      clear hm
      by_cases hlt : k < l.length
      · obtain ⟨ad, rfl, c0, c1, _, _⟩ := HL.out.get k hlt
        have hfit := (HF.out l[k] (List.getElem_mem hlt)).2
        have HV := Lib.hid hfit
        clear hfit
        cases hn : (l[k].name.toList == clK.toList) with
        | false =>
          have HN := Lib.hid (show badH f l[k] = false by simp only [badH, hn, Bool.false_and])
          have hn' : (l[k].name.toList == [99, 111, 110, 116, 101, 110, 116, 45, 108, 101, 110, 103, 116, 104]) = false := by rw [← clK_list]; exact hn
          clear hn
          go_wp2_with fail
          go_round
          case rel => exact ⟨k + 1, by omega, by go_num, HM.out.succ (fun _ => HN.out)⟩
          case measure => simp [intOf]; omega
        | true =>
          have hn' : (l[k].name.toList == [99, 111, 110, 116, 101, 110, 116, 45, 108, 101, 110, 103, 116, 104]) = true := by rw [← clK_list]; exact hn
          cases hv : (l[k].value.toList == f.toList) with
          | false =>
            have HB := Lib.hid (any_hit k hlt (p := badH f) (by simp only [badH, hn, hv]; rfl))
            have HR : Hid (lenF l = (0, false, 134)) := Lib.hid (by rw [lenF, HFD.out, Option.getD_some, HB.out]; rfl)
            clear hn
            go_wp2_with fail
            go_ret3
            exact ⟨by rw [HR.out]; rfl, Below.refl _ _⟩
          | true =>
            have hvf := list_inj hv
            cases hd : digitsB f with
            | false =>
              have HB := Lib.hid (any_hit k hlt (p := badH f) (by simp only [badH, hn, hv, hd]; rfl))
              have HR : Hid (lenF l = (0, false, 134)) := Lib.hid (by rw [lenF, HFD.out, Option.getD_some, HB.out]; rfl)
              have HD := Lib.hid (show digitsB l[k].value = false by rw [hvf, hd])
              clear hn hvf hd
              go_wp2_with (go_at_call 34; refine (rdigits_any _ _ HV.out).mono ?_; rw [HD.out]; rintro e w1 ⟨rfl, rfl⟩)
              go_ret3
              exact ⟨by rw [HR.out]; rfl, Below.refl _ _⟩
            | true =>
              have HN := Lib.hid (show badH f l[k] = false by simp only [badH, hn, hv, hd]; rfl)
              have HD := Lib.hid (show digitsB l[k].value = true by rw [hvf, hd])
              clear hn hvf hd
              go_wp2_with (go_at_call 34; refine (rdigits_any _ _ HV.out).mono ?_; rw [HD.out]; rintro e w1 ⟨rfl, rfl⟩)
              go_round
              case rel => exact ⟨k + 1, by omega, by go_num, HM.out.succ (fun _ => HN.out)⟩
              case measure => simp [intOf]; omega
      · obtain rfl : k = l.length := by omega
        have HG := Lib.hid (any_miss HM.out)
        have HD := Lib.hid (good_digits HFD.out HG.out)
        have HR : Hid (lenF l = (((numF f.data.toList : Nat) : Int), true, 0)) := Lib.hid (by rw [lenF, HFD.out, Option.getD_some, HG.out]; rfl)
        have hsz : f.size ≤ 9 := by
          have := HD.out
          simp only [digitsB, Bool.and_eq_true, decide_eq_true_eq] at this
          exact this.1.2
        clear HM
        go_wp2_with fail
        go_loop [8, 9] (fun v8 v9 => ∃ k : Nat, k ≤ f.size ∧ v9 = .int .i64 k ∧ v8 = .int .i64 (numF (f.data.toList.take k) : Nat)) (fun _ v9 => f.size - (intOf v9).toNat)
        case atStart => exact ⟨0, by omega, rfl, rfl⟩
        case round =>
          obtain ⟨k, hk, rfl, rfl⟩ := hrel
          by_cases hlt : k < f.size
          · obtain ⟨t1, t2, t3, t4⟩ := numF_take HD.out k hlt
            have T1 := Lib.hid t1
            generalize hacc : numF (f.data.toList.take k) = acc at *
            clear t1 hacc
            have hb := byte_lt f[k]
            go_wp2_with fail
            go_round
            case rel => exact ⟨k + 1, by omega, by go_num, by rw [T1.out]; go_num⟩
            case measure => simp [intOf]; omega
          · obtain rfl : k = f.size := by omega
            have ht : f.data.toList.take f.size = f.data.toList := by rw [← size_toList, List.take_length]
            rw [ht]
            clear ht
            go_wp2_with fail
            go_ret3
            exact ⟨by rw [HR.out]; rfl, Below.refl _ _⟩

set_option maxHeartbeats 2000000 in
set_option maxRecDepth 100000 in
theorem len_any (A : Option Addr) (cap : Nat) (l : List Hdr) (w : World) (hl : HdrsAt w A l) (hm : l.length ≤ maxLen) (hf : ∀ y ∈ l, y.fits) :
    Calls Tryz.prog 37 #[.slice A l.length cap] w (LenPost (lenF l) w) := by
  unfold maxLen at hm
  have HL := Lib.hid hl
  have HFS : Hid (∀ f, findH clK l = some f → f.size ≤ maxLen) := Lib.hid (fun f h => by obtain ⟨x, hx, _, rfl⟩ := find_mem h; exact (hf x hx).2)
  clear hl hf
  generalize hfd : findH clK l = fd at HFS
  have HFD := Lib.hid hfd
  clear hfd
  generalize hff : fd.getD emptyB = f
  have HFF := Lib.hid hff
  have HSZ : Hid (f.size ≤ maxLen) := Lib.hid (by
    cases fd with
    | none => rw [← hff]; decide
    | some g => rw [← hff]; exact HFS.out g rfl)
  clear hff HFS
  go_enter Tryz.func37, Tryz.ntmps37
  go_wp2_with fail
  refine (find_any A cap l clK _ HL.out (by unfold maxLen; omega)).mono ?_
  rw [HFD.out, HFF.out]
  rintro e w1 ⟨rfl, hb1⟩
  have HB1 := Lib.hid hb1
  clear hb1
  go_wp2_with fail
  go_loopw [18] (fun i wr => ∃ k : Nat, k ≤ l.length ∧ i = .int .i64 k ∧ Upto (fun j => ∀ h : j < l.length, badH f l[j] = false) k ∧ Hid (Below w.heap.size w wr)) (fun i _ => l.length - (intOf i).toNat)
  case atStart => exact ⟨0, by omega, rfl, Upto.zero _, HB1⟩
  case round =>
    obtain ⟨k, hk, rfl, hm, hbl⟩ := hrel
    have HM := Lib.hid hm
    clear hm
    by_cases hlt : k < l.length
    · obtain ⟨ad, rfl, c0, c1, c2, hblk⟩ := (HL.out.below hbl.out).get k hlt
      cases hn : (l[k].name.toList == clK.toList) with
      | false =>
        have HN := Lib.hid (show badH f l[k] = false by simp only [badH, hn, Bool.false_and])
        have hn' : (l[k].name.toList == [99, 111, 110, 116, 101, 110, 116, 45, 108, 101, 110, 103, 116, 104]) = false := by rw [← clK_list]; exact hn
        clear hn
        go_wp2_with fail
        go_roundw
        case rel => exact ⟨k + 1, by omega, by go_num, HM.out.succ (fun _ => HN.out), Lib.hid (by repeat (first | exact hbl.out | apply below_al))⟩
        case measure => simp [intOf]; omega
      | true =>
        have hn' : (l[k].name.toList == [99, 111, 110, 116, 101, 110, 116, 45, 108, 101, 110, 103, 116, 104]) = true := by rw [← clK_list]; exact hn
        cases hv : (l[k].value.toList == f.toList) with
        | false =>
          have HB := Lib.hid (any_hit k hlt (p := badH f) (by simp only [badH, hn, hv]; rfl))
          have HR : Hid (lenF l = (0, false, 134)) := Lib.hid (by rw [lenF, HFD.out, HFF.out, HB.out]; rfl)
          clear hn
          go_wp2_with fail
          go_ret3
          exact ⟨by rw [HR.out]; rfl, by repeat (first | exact hbl.out | apply below_al)⟩
        | true =>
          cases hd : digitsB f with
          | false =>
            have HB := Lib.hid (any_hit k hlt (p := badH f) (by simp only [badH, hn, hv, hd]; rfl))
            have HR : Hid (lenF l = (0, false, 134)) := Lib.hid (by rw [lenF, HFD.out, HFF.out, HB.out]; rfl)
            have HD := Lib.hid hd
            clear hn hd
            go_wp2_with (go_at_call 36; refine (digits_any _ _ HSZ.out).mono ?_; rw [HD.out]; rintro e w2 ⟨rfl, hb2⟩)
            go_ret3
            exact ⟨by rw [HR.out]; rfl, below_then (below_al hbl.out _) hb2⟩
          | true =>
            have HN := Lib.hid (show badH f l[k] = false by simp only [badH, hn, hv, hd]; rfl)
            have HD := Lib.hid hd
            clear hn hd
            go_wp2_with (go_at_call 36; refine (digits_any _ _ HSZ.out).mono ?_; rw [HD.out]; rintro e w2 ⟨rfl, hb2⟩)
            go_roundw
            case rel => exact ⟨k + 1, by omega, by go_num, HM.out.succ (fun _ => HN.out), Lib.hid (below_then (below_al hbl.out _) hb2)⟩
            case measure => simp [intOf]; omega
    · obtain rfl : k = l.length := by omega
      have HG := Lib.hid (any_miss HM.out)
      clear HM
      cases fd with
      | none =>
        have HR : Hid (lenF l = (0, false, 0)) := Lib.hid (by rw [lenF, HFD.out, HFF.out, HG.out]; rfl)
        go_wp2_with fail
        go_ret3
        exact ⟨by rw [HR.out]; rfl, hbl.out⟩
      | some g =>
        obtain rfl : g = f := HFF.out
        have HD := Lib.hid (good_digits HFD.out HG.out)
        have HR : Hid (lenF l = (((numF g.data.toList : Nat) : Int), true, 0)) := Lib.hid (by rw [lenF, HFD.out, HFF.out, HG.out]; rfl)
        have hsz : g.size ≤ 9 := by
          have := HD.out
          simp only [digitsB, Bool.and_eq_true, decide_eq_true_eq] at this
          exact this.1.2
        go_wp2_with fail
        refine (Tryz.strconv_Atoi g _ (by omega) (atoi_digits HD.out) _).mono ?_
        rintro e w2 ⟨rfl, t, rfl⟩
        go_wp2_with fail
        go_ret3
        exact ⟨by rw [HR.out]; rfl, below_then hbl.out (Lib.bytesWorld_below _ _ _)⟩
end Go.Proofs.YtfljibjjpgdmhaaGreatDoor
