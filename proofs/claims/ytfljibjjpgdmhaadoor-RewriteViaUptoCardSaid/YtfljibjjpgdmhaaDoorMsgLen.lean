/- The walks of digits and Length, the program's and the reference's. -/
import Derived.Test.YtfljibjjpgdmhaaDoorMsgFind
import Derived.Test.YtfljibjjpgdmhaaDoorMsgLenPure
import Derived.Test.YtfljibjjpgdmhaaDoorShelf
import Derived.Shelf.Strings.SlTrimAscii
import Derived.Lib.AtoiErrMem
set_option linter.unusedVariables false
set_option linter.unusedSimpArgs false
set_option linter.unusedSectionVars false
namespace Go.Proofs.YtfljibjjpgdmhaaDoor
open Go.RowKit
theorem digits_eq (s : ByteArray) (h1 : 1 ≤ s.size) (h9 : s.size ≤ 9) : digitsB s = ((⟨(Lib.trimS s.data.toList digK.data.toList).toArray⟩ : ByteArray).toList == []) := by
  rw [ByteArray.toList_eq]
  show digitsB s = ((Lib.trimS s.data.toList digK.data.toList).toArray.toList == [])
  rw [List.toList_toArray]
  have : ∀ l : List UInt8, (l == []) = l.isEmpty := fun l => by cases l <;> rfl
  rw [this, trim_digits]
  simp [digitsB, h1, h9]
theorem toList_nil (s : ByteArray) : (s.toList == []) = decide (s.size = 0) := by
  rw [ByteArray.toList_eq, ← size_toList]
  cases s.data.toList <;> simp
set_option maxHeartbeats 1000000 in
set_option maxRecDepth 100000 in
theorem digits_any (s : ByteArray) (w : World) (hs : s.size ≤ maxLen) :
    Calls Tryd.prog 28 #[.string s, .int .i64 9] w fun e w' => e = .returned (.bool (digitsB s)) ∧ Below w.heap.size w w' := by
  unfold maxLen at hs
  by_cases h1 : 1 ≤ s.size
  · have e0 : (s.toList == []) = false := by rw [toList_nil]; exact decide_eq_false (by omega)
    by_cases h9 : s.size ≤ 9
    · have HD := Lib.hid (digits_eq s h1 h9)
      go_enter Tryd.func28, Tryd.ntmps28
      go_wp2_with fail
      refine (Any.strings_Trim_laid Tryd.lays160 (by kernel_rfl) s digK _ (by omega) (by decide) (ascii_of_all (by decide))).mono ?_
      rintro e w1 ⟨rfl, hb⟩
      have HB := Lib.hid hb
      clear hb
      generalize hq : (⟨(Lib.trimS s.data.toList digK.data.toList).toArray⟩ : ByteArray) = q
      rw [hq] at HD
      clear hq
      go_wp2_with fail
      all_goals
        go_ret
        exact ⟨bool_eq (by rw [HD.out]; cases q.toList <;> rfl), HB.out⟩
    · have hd : digitsB s = false := by simp [digitsB, h9]
      have HD := Lib.hid hd
      clear hd
      go_enter Tryd.func28, Tryd.ntmps28
      go_wp2_with fail
      all_goals
        go_ret
        exact ⟨bool_eq (by rw [HD.out]), Below.refl _ _⟩
  · have e0 : (s.toList == []) = true := by rw [toList_nil]; exact decide_eq_true (by omega)
    have hd : digitsB s = false := by simp [digitsB, h1]
    have HD := Lib.hid hd
    clear hd
    go_enter Tryd.func28, Tryd.ntmps28
    go_wp2_with fail
    all_goals
      go_ret
      exact ⟨bool_eq (by rw [HD.out]), Below.refl _ _⟩

theorem dig_no (s : ByteArray) (k : Nat) (h : k < s.size) (hf : isDig s[k] = false) : digitsB s = false := by
  unfold digitsB
  rw [all_false s k h _ hf]; simp
theorem dig_yes (s : ByteArray) (h : Upto (fun j => ∀ h : j < s.size, isDig s[j] = true) s.size) : digitsB s = (decide (1 ≤ s.size) && decide (s.size ≤ 9)) := by
  unfold digitsB
  rw [all_true s _ (fun j hj => h.out j hj hj)]; simp
theorem clK_list : clK.toList = [99, 111, 110, 116, 101, 110, 116, 45, 108, 101, 110, 103, 116, 104] := by rw [ByteArray.toList_eq]; rfl
def LenPost (r : Int × Bool × Int) (w : World) (e : Ending) (w' : World) : Prop := e = .returned (.tuple #[.int .i64 r.1, .bool r.2.1, .int .i64 r.2.2]) ∧ Below w.heap.size w w'
set_option maxHeartbeats 2000000 in
set_option maxRecDepth 100000 in
theorem len_any (A : Option Addr) (cap : Nat) (l : List Hdr) (w : World) (hl : HdrsAt w A l) (hm : l.length ≤ maxLen) (hf : ∀ y ∈ l, y.fits) :
    Calls Tryd.prog 24 #[.slice A l.length cap] w (LenPost (lenF l) w) := by
  unfold maxLen at hm
  have HL := Lib.hid hl
  have HFS : Hid (∀ f, findH clK l = some f → f.size ≤ maxLen) := Lib.hid (fun f h => by obtain ⟨x, hx, _, rfl⟩ := find_mem h; exact (hf x hx).2)
  clear hl hf
  generalize hfd : findH clK l = fd at HFS
  have HFD := Lib.hid hfd
  clear hfd
  generalize hff : fd.getD emptyB = f
  have HFF := Lib.hid hff
  have HSZ : Hid (f.size ≤ maxLen) := Lib.hid (by
    cases fd with
    | none => rw [← hff]; decide
    | some g => rw [← hff]; exact HFS.out g rfl)
  clear hff HFS
  go_enter Tryd.func24, Tryd.ntmps24
  go_wp2_with fail
  refine (find_any A cap l clK _ HL.out (by unfold maxLen; omega)).mono ?_
  rw [HFD.out, HFF.out]
  rintro e w1 ⟨rfl, hb1⟩
  have HB1 := Lib.hid hb1
  clear hb1
  go_wp2_with fail
  go_loopw [18] (fun i wr => ∃ k : Nat, k ≤ l.length ∧ i = .int .i64 k ∧ Upto (fun j => ∀ h : j < l.length, badH f l[j] = false) k ∧ Hid (Below w.heap.size w wr)) (fun i _ => l.length - (intOf i).toNat)
  case atStart => exact ⟨0, by omega, rfl, Upto.zero _, HB1⟩
  case round =>
    obtain ⟨k, hk, rfl, hm, hbl⟩ := hrel
    have HM := Lib.hid hm
    clear hm
    by_cases hlt : k < l.length
    · obtain ⟨ad, rfl, c0, c1, c2, hblk⟩ := (HL.out.below hbl.out).get k hlt
      cases hn : (l[k].name.toList == clK.toList) with
      | false =>
        have HN := Lib.hid (show badH f l[k] = false by simp only [badH, hn, Bool.false_and])
        have hn' : (l[k].name.toList == [99, 111, 110, 116, 101, 110, 116, 45, 108, 101, 110, 103, 116, 104]) = false := by rw [← clK_list]; exact hn
        clear hn
        go_wp2_with fail
        go_roundw
        case rel => exact ⟨k + 1, by omega, by go_num, HM.out.succ (fun _ => HN.out), Lib.hid (by repeat (first | exact hbl.out | apply below_al))⟩
        case measure => simp [intOf]; omega
      | true =>
        have hn' : (l[k].name.toList == [99, 111, 110, 116, 101, 110, 116, 45, 108, 101, 110, 103, 116, 104]) = true := by rw [← clK_list]; exact hn
        cases hv : (l[k].value.toList == f.toList) with
        | false =>
          have HB := Lib.hid (any_hit k hlt (p := badH f) (by simp only [badH, hn, hv]; rfl))
          have HR : Hid (lenF l = (0, false, 134)) := Lib.hid (by rw [lenF, HFD.out, HFF.out, HB.out]; rfl)
          clear hn
          go_wp2_with fail
          go_ret3
          exact ⟨by rw [HR.out]; rfl, by repeat (first | exact hbl.out | apply below_al)⟩
        | true =>
          cases hd : digitsB f with
          | false =>
            have HB := Lib.hid (any_hit k hlt (p := badH f) (by simp only [badH, hn, hv, hd]; rfl))
            have HR : Hid (lenF l = (0, false, 134)) := Lib.hid (by rw [lenF, HFD.out, HFF.out, HB.out]; rfl)
            have HD := Lib.hid hd
            clear hn hd
            go_wp2_with (go_at_call 28; refine (digits_any _ _ HSZ.out).mono ?_; rw [HD.out]; rintro e w2 ⟨rfl, hb2⟩)
            go_ret3
            exact ⟨by rw [HR.out]; rfl, below_then (below_al hbl.out _) hb2⟩
          | true =>
            have HN := Lib.hid (show badH f l[k] = false by simp only [badH, hn, hv, hd]; rfl)
            have HD := Lib.hid hd
            clear hn hd
            go_wp2_with (go_at_call 28; refine (digits_any _ _ HSZ.out).mono ?_; rw [HD.out]; rintro e w2 ⟨rfl, hb2⟩)
            go_roundw
            case rel => exact ⟨k + 1, by omega, by go_num, HM.out.succ (fun _ => HN.out), Lib.hid (below_then (below_al hbl.out _) hb2)⟩
            case measure => simp [intOf]; omega
    · obtain rfl : k = l.length := by omega
      have HG := Lib.hid (any_miss HM.out)
      clear HM
      cases fd with
      | none =>
        have HR : Hid (lenF l = (0, false, 0)) := Lib.hid (by rw [lenF, HFD.out, HFF.out, HG.out]; rfl)
        go_wp2_with fail
        go_ret3
        exact ⟨by rw [HR.out]; rfl, hbl.out⟩
      | some g =>
        obtain rfl : g = f := HFF.out
        have HD := Lib.hid (good_digits HFD.out HG.out)
        have HR : Hid (lenF l = (((numF g.data.toList : Nat) : Int), true, 0)) := Lib.hid (by rw [lenF, HFD.out, HFF.out, HG.out]; rfl)
        have hsz : g.size ≤ 9 := by
          have := HD.out
          simp only [digitsB, Bool.and_eq_true, decide_eq_true_eq] at this
          exact this.1.2
        go_wp2_with fail
        refine (Tryd.strconv_Atoi g _ (by omega) (atoi_digits HD.out) _).mono ?_
        rintro e w2 ⟨rfl, t, rfl⟩
        go_wp2_with fail
        go_ret3
        exact ⟨by rw [HR.out]; rfl, below_then hbl.out (Lib.bytesWorld_below _ _ _)⟩
end Go.Proofs.YtfljibjjpgdmhaaDoor
