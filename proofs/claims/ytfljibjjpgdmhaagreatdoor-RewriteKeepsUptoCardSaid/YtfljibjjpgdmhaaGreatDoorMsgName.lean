/- The walks of message.letter, message.Name, aqueductref13.letter, aqueductref13.Name: each returns what a plain function on bytes says, and writes nothing that was there. -/
import Derived.Test.YtfljibjjpgdmhaaGreatDoorProg
import Derived.Test.YtfljibjjpgdmhaaGreatDoorShelf
import Derived.Test.YtfljibjjpgdmhaaGreatDoorKit
set_option linter.unusedVariables false
set_option linter.unusedSimpArgs false
set_option linter.unusedSectionVars false
namespace Go.Proofs.YtfljibjjpgdmhaaGreatDoor
open Go.RowKit

def lets : List UInt8 := [33, 35, 36, 37, 38, 39, 42, 43, 45, 46, 94, 95, 96, 124, 126]
/-- May a byte (or a rune) stand in a name? -/
def letB (n : Nat) : Bool := decide (97 ≤ n ∧ n ≤ 122) || decide (48 ≤ n ∧ n ≤ 57) || (decide (n < 128) && decide (0 ≤ Lib.indexByte lets n.toUInt8))
theorem letB_high {n : Nat} (h : 128 ≤ n) : letB n = false := by
  unfold letB; simp; omega
def nameB (l : List UInt8) : Bool := l.all (fun b => letB b.toNat) && !l.isEmpty
theorem mod256 {n : Nat} (h : n < 128) : IntKind.u8.wrap (n : Int) = (n : Int) := by
  simp only [IntKind.wrap, IntKind.signed, IntKind.bits]; simp; omega

set_option maxHeartbeats 400000 in
set_option maxRecDepth 100000 in
theorem letter_any (n : Nat) (w : World) :
    Calls Tryz.prog 66 #[.int .i32 n] w fun e w' => e = .returned (.bool (letB n)) ∧ w = w' := by
  have key : (decide (97 ≤ n ∧ n ≤ 122) = false) → (decide (48 ≤ n ∧ n ≤ 57) = false) → n < 128 → letB n = decide (0 ≤ Lib.indexByte lets n.toUInt8) := by
    intro h1 h2 h3; unfold letB; rw [h1, h2]; simp [h3]
  have K := Lib.hid key
  clear key
  by_cases c1 : 97 ≤ n ∧ n ≤ 122
  · obtain ⟨c1, c2⟩ := c1
    go_enter Tryz.func66, Tryz.ntmps66
    go_wp2
    go_ret
    exact ⟨by simp [letB, c1, c2], rfl⟩
  · by_cases c3 : n < 128
    · have hm := mod256 c3
      by_cases c4 : 48 ≤ n ∧ n ≤ 57
      · obtain ⟨c4, c5⟩ := c4
        have c1' : ¬ 97 ≤ n := by omega
        go_enter Tryz.func66, Tryz.ntmps66
        go_wp2
        go_ret
        exact ⟨by simp [letB, c4, c5], rfl⟩
      · have K1 := Lib.hid (K.out (by simp; omega) (by simp; omega) c3)
        clear K
        go_enter Tryz.func66, Tryz.ntmps66
        go_wp2_with (go_at_call 84; refine (Tryz.strings_IndexByte _ _ _).mono ?_; rintro e w' ⟨rfl, rfl⟩)
        all_goals
          go_ret
          exact ⟨bool_eq (by rw [K1.out]; simp [lets]), rfl⟩
    · go_enter Tryz.func66, Tryz.ntmps66
      go_wp2
      all_goals
        go_ret
        exact ⟨bool_eq (by rw [letB_high (by omega)]), rfl⟩

def rlets : ByteArray := ⟨#[33, 35, 36, 37, 38, 39, 42, 43, 45, 46, 94, 95, 124, 126]⟩
theorem rlets_fin : ∀ n : Nat, n < 256 → letB n = (decide (97 ≤ n ∧ n ≤ 122) || decide (48 ≤ n ∧ n ≤ 57) || (rlets.data.toList.map UInt8.toNat).contains n || decide (n = 96)) := by decide +kernel
theorem rlets_hit (n k : Nat) (h : k < rlets.size) (e : rlets[k].toNat = n) : (rlets.data.toList.map UInt8.toNat).contains n = true := by
  rw [List.contains_iff_mem, List.mem_map]
  exact ⟨_, List.getElem_mem (by simpa using h), e⟩
theorem rlets_miss (n : Nat) (hm : ∀ j (h : j < rlets.size), rlets[j].toNat ≠ n) : (rlets.data.toList.map UInt8.toNat).contains n = false := by
  rw [← Bool.not_eq_true, List.contains_iff_mem, List.mem_map]
  rintro ⟨x, hx, e⟩
  obtain ⟨j, hj, rfl⟩ := List.mem_iff_getElem.1 hx
  exact hm j (by simpa using hj) e

set_option maxHeartbeats 400000 in
set_option maxRecDepth 100000 in
theorem rletter_any (n : Nat) (w : World) (hn : n ≤ 255) :
    Calls Tryz.prog 63 #[.int .u8 n] w fun e w' => e = .returned (.bool (letB n)) ∧ w = w' := by
  have F := Lib.hid (rlets_fin n (by omega))
  by_cases c1 : 97 ≤ n ∧ n ≤ 122
  · obtain ⟨c1, c2⟩ := c1
    go_enter Tryz.func63, Tryz.ntmps63
    go_wp2
    go_ret
    exact ⟨by simp [letB, c1, c2], rfl⟩
  · by_cases c4 : 48 ≤ n ∧ n ≤ 57
    · obtain ⟨c4, c5⟩ := c4
      have c1' : ¬ 97 ≤ n := by omega
      go_enter Tryz.func63, Tryz.ntmps63
      go_wp2
      go_ret
      exact ⟨by simp [letB, c4, c5], rfl⟩
    · have d1 : decide (97 ≤ n ∧ n ≤ 122) = false := by simp; omega
      have d2 : decide (48 ≤ n ∧ n ≤ 57) = false := by simp; omega
      have F1 := Lib.hid (by have h := F.out; rw [d1, d2] at h; simpa only [Bool.false_or] using h)
      clear F d1 d2
      go_enter Tryz.func63, Tryz.ntmps63
      go_wp2
      all_goals
        have hS : Hid (rlets = ByteArray.mk #[33, 35, 36, 37, 38, 39, 42, 43, 45, 46, 94, 95, 124, 126]) := Lib.hid rfl
        rw [← hS.out]
        have hz : rlets.size ≤ 14 := by decide
        go_loop [4] (fun i => ∃ k : Nat, k ≤ rlets.size ∧ i = .int .i64 k ∧ Upto (fun j => ∀ h : j < rlets.size, rlets[j].toNat ≠ n) k) (fun i => rlets.size - (intOf i).toNat)
        case atStart => exact ⟨0, by omega, rfl, Upto.zero _⟩
        case round =>
          obtain ⟨k, hk, rfl, hm⟩ := hrel
          by_cases hlt : k < rlets.size
          · by_cases he : rlets[k].toNat = n
            · have HE := Lib.hid (rlets_hit n k hlt he)
              have hb : ((rlets[k].toNat : Int) == (n : Int)) = true := by simp [he]
              clear he
              go_wp2
              go_ret
              exact ⟨bool_eq (by rw [F1.out, HE.out]; rfl), rfl⟩
            · have hb : ((rlets[k].toNat : Int) == (n : Int)) = false := by simp; omega
              have HE := Lib.hid he
              clear he
              go_wp2
              go_round
              case rel => exact ⟨k + 1, by omega, by go_num, hm.succ (fun _ => HE.out)⟩
              case measure => simp [intOf]; omega
          · have HE := Lib.hid (rlets_miss n (fun j h => hm.out j (by omega) h))
            go_wp2
            go_ret
            exact ⟨bool_eq (by rw [F1.out, HE.out, beq_num _ _ (by omega)]; simp), rfl⟩

theorem name_of (s : ByteArray) (h : Upto (fun j => ∀ h : j < s.size, letB s[j].toNat = true) s.size) : nameB s.data.toList = decide (s.size ≠ 0) := by
  unfold nameB
  rw [all_true s _ (fun j hj => h.out j hj hj), empty_iff]; simp
theorem name_no (s : ByteArray) (k : Nat) (h : k < s.size) (hf : letB s[k].toNat = false) : nameB s.data.toList = false := by
  unfold nameB
  rw [all_false s k h _ hf]; rfl

set_option maxHeartbeats 400000 in
set_option maxRecDepth 100000 in
theorem rname_any (s : ByteArray) (w : World) (hs : s.size ≤ maxLen) :
    Calls Tryz.prog 44 #[.string s] w fun e w' => e = .returned (.bool (nameB s.data.toList)) ∧ w = w' := by
  unfold maxLen at hs
  go_enter Tryz.func44, Tryz.ntmps44
  go_wp2
  go_loop [3] (fun i => ∃ k : Nat, k ≤ s.size ∧ i = .int .i64 k ∧ Upto (fun j => ∀ h : j < s.size, letB s[j].toNat = true) k) (fun i => s.size - (intOf i).toNat)
  case atStart => exact ⟨0, by omega, rfl, Upto.zero _⟩
  case round =>
    obtain ⟨k, hk, rfl, hm⟩ := hrel
    by_cases hlt : k < s.size
    · have hb := byte_lt s[k]
      cases hl : letB s[k].toNat with
      | false =>
        have HN := Lib.hid (name_no s k hlt hl)
        go_wp2_with (go_at_call 63; refine (rletter_any _ _ (by omega)).mono ?_; rintro e w' ⟨rfl, rfl⟩)
        go_ret
        exact ⟨bool_eq (by rw [HN.out]), rfl⟩
      | true =>
        have HL := Lib.hid hl
        go_wp2_with (go_at_call 63; refine (rletter_any _ _ (by omega)).mono ?_; rintro e w' ⟨rfl, rfl⟩)
        go_round
        case rel => exact ⟨k + 1, by omega, by go_num, hm.succ (fun _ => HL.out)⟩
        case measure => simp [intOf]; omega
    · obtain rfl : k = s.size := by omega
      have HN := Lib.hid (name_of s hm)
      go_wp2
      all_goals
        go_ret
        exact ⟨bool_eq (by rw [HN.out]; rw [ByteArray.toList_eq, empty_iff]; simp), rfl⟩

theorem width_pos (s : ByteArray) (pos : Nat) (h : pos < s.size) : 1 ≤ (Utf8.decode s pos).2 := by
  by_cases ha : (s[pos]'h).toNat < 128
  · rw [decode_ascii s pos h ha]; exact Nat.le_refl _
  · exact (decode_high s pos h (by omega)).2

set_option maxHeartbeats 800000 in
set_option maxRecDepth 100000 in
theorem name_any (s : ByteArray) (w : World) (hs : s.size ≤ maxLen) :
    Calls Tryz.prog 52 #[.string s] w fun e w' => e = .returned (.bool (nameB s.data.toList)) ∧ ∃ pos, w' = w.iter s pos := by
  unfold maxLen at hs
  go_enter Tryz.func52, Tryz.ntmps52
  go_wp2
  go_loopw [2] (fun r w' => ∃ pos : Nat, w' = w.iter s pos ∧ r = .bool false ∧ pos ≤ s.size ∧ Upto (fun j => ∀ h : j < s.size, letB s[j].toNat = true) pos) (fun _ w' => s.size - w'.iterPos w.heap.size)
  case atStart => exact ⟨0, rfl, rfl, by omega, Upto.zero _⟩
  case round =>
    obtain ⟨pos, rfl, rfl, hps, hm⟩ := hrel
    by_cases hp : pos < s.size
    · have hb := byte_lt s[pos]
      by_cases ha : s[pos].toNat < 128
      · have hnx : ∀ ty, (Instr.next (.pointer (some ⟨w.heap.size, 0, none⟩)) true ty).run Tryz.prog (w.iter s pos) = _ := fun ty => run_next_ascii w s pos ty hp ha
        cases hl : letB s[pos].toNat with
        | false =>
          have HN := Lib.hid (name_no s pos hp hl)
          have HL := Lib.hid hl
          clear hl
          go_wp2_with (go_at_call 66; refine (letter_any _ _).mono ?_; rintro e w' ⟨rfl, rfl⟩; rw [HL.out])
          go_ret
          exact ⟨bool_eq (by rw [HN.out]), _, rfl⟩
        | true =>
          have HL := Lib.hid hl
          clear hl
          go_wp2_with (go_at_call 66; refine (letter_any _ _).mono ?_; rintro e w' ⟨rfl, rfl⟩; rw [HL.out])
          go_roundw
          case rel => exact ⟨pos + 1, rfl, rfl, by omega, hm.succ (fun _ => HL.out)⟩
          case measure => simp; omega
      · have hd := decode_high s pos hp (by omega)
        have hnx : ∀ ty, (Instr.next (.pointer (some ⟨w.heap.size, 0, none⟩)) true ty).run Tryz.prog (w.iter s pos) = _ := fun ty => run_next_any w s pos ty hp
        have HN := Lib.hid (name_no s pos hp (letB_high (by omega)))
        generalize Utf8.decode s pos = d at *
        obtain ⟨c, n⟩ := d
        obtain ⟨hd, hd2⟩ := hd
        dsimp only at hd hd2 hnx
        have HL := Lib.hid (letB_high (n := c) (by omega))
        go_wp2_with (go_at_call 66; refine (letter_any _ _).mono ?_; rintro e w' ⟨rfl, rfl⟩; rw [HL.out])
        go_ret
        exact ⟨bool_eq (by rw [HN.out]), _, rfl⟩
    · obtain rfl : pos = s.size := by omega
      have hnx : ∀ ty, (Instr.next (.pointer (some ⟨w.heap.size, 0, none⟩)) true ty).run Tryz.prog (w.iter s s.size) = _ := fun ty => run_next_end w s s.size ty hp
      have HN := Lib.hid (name_of s hm)
      go_wp2
      all_goals
        go_ret
        exact ⟨bool_eq (by rw [HN.out]; rw [ByteArray.toList_eq, empty_iff]; simp), _, rfl⟩

theorem name_below (s : ByteArray) (b : Bool) (w : World) (hs : s.size ≤ maxLen) (hb : nameB s.data.toList = b) :
    Calls Tryz.prog 52 #[.string s] w fun e w' => e = .returned (.bool b) ∧ Below w.heap.size w w' := by
  subst hb
  refine (name_any s w hs).mono ?_
  rintro e w' ⟨he, pos, rfl⟩
  exact ⟨he, below_al (Below.refl _ _) _⟩

end Go.Proofs.YtfljibjjpgdmhaaGreatDoor
