/- The walks of strings.IndexAny at the bytes that no value may hold, of Value, the program's and the reference's. -/
import Derived.Test.YtfljibjjpgdmhaaGreatDoorMsgRune
import Derived.Test.YtfljibjjpgdmhaaGreatDoorMsgRuneErr
import Derived.Lib.OthersKept
set_option linter.unusedVariables false
set_option linter.unusedSimpArgs false
set_option linter.unusedSectionVars false
namespace Go.Proofs.YtfljibjjpgdmhaaGreatDoor
open Go.RowKit
theorem get_bang (s : ByteArray) (i : Nat) (h : i < s.size) : s.get! i = s[i] := by
  show s.data[i]! = s.data[i]
  rw [getElem!_pos s.data i h]
theorem decode_cont (s : ByteArray) (pos j : Nat) (h1 : 1 ≤ j) (hj : j < (Utf8.decode s pos).2) : pos + j < s.size ∧ 128 ≤ (s.get! (pos + j)).toNat := by
  simp only [Utf8.decode] at hj
  repeat' split at hj
  all_goals simp only [Bool.and_eq_true, decide_eq_true_eq, beq_iff_eq] at *
  all_goals first
    | omega
    | (obtain rfl | rfl | rfl : j = 1 ∨ j = 2 ∨ j = 3 := by omega
       all_goals first | (exact ⟨by omega, by omega⟩) | omega)
/-- What IndexRune says of a rune. -/
def RunePost (c : Nat) (w : World) (e : Ending) (w' : World) : Prop := ∃ r : Int, e = .returned (.int .i64 r) ∧ decide (0 ≤ r) = (decide (c < 128) && badB c.toUInt8) ∧ Below w.heap.size w w'
theorem rune_any (c : Nat) (w : World) : Calls Tryz.prog 100 #[.string crlf, .int .i32 c] w (RunePost c w) := by
  by_cases h : c < 128
  · refine (Tryz.strings_IndexRune_ascii crlf c w (by omega) (by omega)).mono ?_
    rintro e w' ⟨rfl, rfl⟩
    exact ⟨_, rfl, by rw [indexByte_bad]; simp [h], Below.refl _ _⟩
  · by_cases h2 : c = 65533
    · subst h2
      refine (runeErr_any w).mono ?_
      rintro e w' ⟨rfl, hb⟩
      exact ⟨_, rfl, by simp, hb⟩
    · refine (runeHigh_any (c : Int) (by omega) (by omega) w).mono ?_
      rintro e w' ⟨rfl, hb⟩
      exact ⟨_, rfl, by simp [h], hb⟩
def AnyPost (s : ByteArray) (w : World) (e : Ending) (w' : World) : Prop := (∃ r : Int, e = .returned (.int .i64 r) ∧ decide (0 ≤ r) = s.data.toList.any badB) ∧ Below w.heap.size w w'
theorem crlf_nonempty : (crlf.toList == []) = false := by rw [ByteArray.toList_eq]; rfl
theorem pos_at {w : World} {k pos : Nat} {s : ByteArray} (h : w.heap[k]? = some (.stringIter s pos)) : w.iterPos k = pos := by simp [World.iterPos, h]

set_option maxHeartbeats 2000000 in
set_option maxRecDepth 100000 in
theorem idxAny_short (s : ByteArray) (w : World) (h8 : s.size ≤ 8) :
    Calls Tryz.prog 85 #[.string s, .string crlf] w (AnyPost s w) := by
  have HR : Hid (∀ (c : Nat) (w : World), Calls Tryz.prog 100 #[.string crlf, .int .i32 c] w (RunePost c w)) := Lib.hid rune_any
  have hne : (crlf.toList == []) = false := crlf_nonempty
  have hsz : crlf.size = 3 := rfl
  generalize crlf = S at *
  have H8 : Hid (decide ((8 : Int) < (s.size : Int)) = false) := Lib.hid (decide_eq_false (by omega))
  go_enter Tryz.func85, Tryz.ntmps85
  go_wp2_with fail
  refine (Tryz.strings_shouldUseASCIISet _ _).mono ?_
  rw [H8.out]
  rintro e w1 ⟨rfl, rfl⟩
  go_wp2_with fail
  go_loopw [4] (fun r wr => ∃ pos : Nat, r = .int .i64 0 ∧ pos ≤ s.size ∧ wr.heap[w1.heap.size]? = some (.stringIter s pos) ∧ Hid (Below w1.heap.size w1 wr) ∧ Upto (fun j => ∀ h : j < s.size, badB s[j] = false) pos) (fun _ wr => s.size - wr.iterPos w1.heap.size)
  case atStart => exact ⟨0, rfl, by omega, heap_alloc_new w1 _, Lib.hid (below_al (Below.refl _ _) _), Upto.zero _⟩
  case round =>
    obtain ⟨pos, rfl, hps, hk, hbl, hm⟩ := hrel
    have HM := Lib.hid hm
    have HK := Lib.hid hk
    clear hm hk
    by_cases hp : pos < s.size
    · have hnx : ∀ ty, (Instr.next (.pointer (some ⟨w1.heap.size, 0, none⟩)) true ty).run Tryz.prog wr = _ := fun ty => Lib.run_next_any_at wr w1.heap.size s pos ty HK.out hp
      have hcont := decode_cont s pos
      have hw := width_pos s pos hp
      have hfirst : s[pos].toNat < 128 → (Utf8.decode s pos) = (s[pos].toNat, 1) := decode_ascii s pos hp
      have hhigh : 128 ≤ s[pos].toNat → 128 ≤ (Utf8.decode s pos).1 := fun h => (decode_high s pos hp h).1
      generalize hd : Utf8.decode s pos = d at *
      obtain ⟨c, n⟩ := d
      dsimp only at hnx hcont hw hfirst hhigh
      have HC := Lib.hid hcont
      have HF := Lib.hid (And.intro hfirst hhigh)
      have hpn : pos + n ≤ s.size := by
        rcases Nat.lt_or_ge 1 n with h | h
        · have := (hcont (n - 1) (by omega) (by omega)).1; omega
        · omega
      clear hd hcont hfirst hhigh
      go_wp2_with fail
      refine (HR.out c _).mono ?_
      rintro e w2 ⟨r, rfl, hr, hb2⟩
      have HK2 : Hid (w2.heap[w1.heap.size]? = some (.stringIter s (pos + n))) := Lib.hid (by
        have h1 := Lib.iterAt_heap wr w1.heap.size s pos (pos + n) HK.out
        rw [← h1]
        exact hb2.block _ (Array.getElem?_eq_some_iff.1 h1).1)
      have HB2 : Hid (Below w1.heap.size w1 w2) := Lib.hid (below_then (Lib.below_iterAt hbl.out (Nat.le_refl _) s (pos + n)) hb2)
      have HRR := Lib.hid hr
      clear hb2 hr
      by_cases hr0 : 0 ≤ r
      · have HA := Lib.hid (show s.data.toList.any badB = true by
          have h1 := HRR.out
          rw [decide_eq_true hr0] at h1
          have h2 := h1.symm
          simp only [Bool.and_eq_true, decide_eq_true_eq] at h2
          have h3 : s[pos].toNat < 128 := by
            rcases Nat.lt_or_ge s[pos].toNat 128 with h | h
            · exact h
            · have := HF.out.2 h; omega
          have h4 := HF.out.1 h3
          simp only [Prod.mk.injEq] at h4
          refine any_badT s pos hp ?_
          rw [← h2.2, h4.1]
          simp)
        go_wp2_with fail
        go_ret
        refine ⟨⟨_, rfl, ?_⟩, HB2.out⟩
        rw [HA.out]
        simp
      · have HN := Lib.hid (show Upto (fun j => ∀ h : j < s.size, badB s[j] = false) (pos + n) from fun j hj hjs => by
          rcases Nat.lt_or_ge j pos with h | h
          · exact HM.out.out j h hjs
          · rcases Nat.eq_or_lt_of_le h with h | h
            · subst h
              rcases Nat.lt_or_ge s[pos].toNat 128 with h | h
              · have h1 := HRR.out
                rw [decide_eq_false hr0] at h1
                have h4 := HF.out.1 h
                simp only [Prod.mk.injEq] at h4
                rw [h4.1] at h1
                simp [h] at h1
                exact h1
              · exact bad_high h
            · have := (HC.out (j - pos) (by omega) (by omega)).2
              rw [show pos + (j - pos) = j by omega, get_bang s j hjs] at this
              exact bad_high this)
        go_wp2_with fail
        go_roundw
        case rel => exact ⟨pos + n, rfl, hpn, HK2.out, HB2, HN.out⟩
        case measure => rw [pos_at HK.out, pos_at HK2.out]; omega
    · obtain rfl : pos = s.size := by omega
      have hnx : ∀ ty, (Instr.next (.pointer (some ⟨w1.heap.size, 0, none⟩)) true ty).run Tryz.prog wr = _ := fun ty => Lib.run_next_end_at wr w1.heap.size s s.size ty HK.out hp
      have HA := Lib.hid (any_badF s HM.out)
      go_wp2_with fail
      go_ret
      refine ⟨⟨_, rfl, ?_⟩, hbl.out⟩
      rw [HA.out]
      decide
end Go.Proofs.YtfljibjjpgdmhaaGreatDoor
