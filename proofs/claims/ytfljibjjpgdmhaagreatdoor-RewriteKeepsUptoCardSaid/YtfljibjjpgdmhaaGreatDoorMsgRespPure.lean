/- What a list must be to be a response's, and its status: plain laws. -/
import Derived.Test.YtfljibjjpgdmhaaGreatDoorMsgWalk
import Derived.Test.YtfljibjjpgdmhaaGreatDoorMsgLen
set_option linter.unusedVariables false
set_option linter.unusedSimpArgs false
set_option linter.unusedSectionVars false
namespace Go.Proofs.YtfljibjjpgdmhaaGreatDoor
open Go.RowKit
def statusK : ByteArray := ⟨#[58, 115, 116, 97, 116, 117, 115]⟩
def getV (n : ByteArray) (l : List Hdr) : ByteArray := (findH n l).getD emptyB
theorem look_ps {P : Program} {w : World} {m : Nat} {l : List Hdr} (h : SMapIs w m (psOf l)) {t kt et : TypeId} (ht : P.underlying t = some (.map kt et)) (hk : P.underlying kt = some .string) (hz : (zeroValue et).run P w = .ok (.string emptyB) w) (n : ByteArray) (hn : pseuB n.data.toList = true) :
    (Instr.lookup t (.map (some m)) (.string n) false).run P w = .ok (.string (getV n l)) w := by
  rw [h.look ht hk hz n false, smget_ps hn, if_neg (by decide), getV]
  cases findH n l <;> rfl
theorem look_ps2 {P : Program} {w : World} {m : Nat} {l : List Hdr} (h : SMapIs w m (psOf l)) {t kt et : TypeId} (ht : P.underlying t = some (.map kt et)) (hk : P.underlying kt = some .string) (hz : (zeroValue et).run P w = .ok (.string emptyB) w) (n : ByteArray) (hn : pseuB n.data.toList = true) :
    (Instr.lookup t (.map (some m)) (.string n) true).run P w = .ok (.tuple #[.string (getV n l), .bool (findH n l).isSome]) w := by
  rw [h.look ht hk hz n true, smget_ps hn, if_pos rfl, getV]
  cases findH n l <;> rfl
/-- A status: three digits, 100 to 599. -/
def statB (s : ByteArray) : Bool := digitsB s && decide (s.size = 3) && decide (49 ≤ (s.get! 0).toNat ∧ (s.get! 0).toNat ≤ 53)
def respF (l : List Hdr) : Int × Int :=
  if walkF [statusK] l ≠ 0 then (0, walkF [statusK] l)
  else if statB (getV statusK l) = true then (if (lenF l).2.2 ≠ 0 then (0, (lenF l).2.2) else (((numF (getV statusK l).data.toList : Nat) : Int), 0)) else (0, 132)
theorem three {s : ByteArray} (h : s.size = 3) (hd : digitsB s = true) : ∃ a b c : UInt8, s.data.toList = [a, b, c] ∧ s.get! 0 = a ∧ isDig a = true ∧ isDig b = true ∧ isDig c = true := by
  simp only [digitsB, Bool.and_eq_true, decide_eq_true_eq] at hd
  have hl : s.data.toList.length = 3 := h
  match hs : s.data.toList, hl with
  | [a, b, c], _ =>
    have hd2 := hd.2
    rw [hs] at hd2
    simp only [List.all_cons, List.all_nil, Bool.and_eq_true, Bool.and_true] at hd2
    refine ⟨a, b, c, rfl, ?_, hd2.1, hd2.2.1, hd2.2.2⟩
    have h0 : 0 < s.size := by omega
    have : s[0] = a := by rw [← get_toList s 0 h0]; simp [hs]
    rw [← this]
    exact get_bang s 0 h0
theorem dig_le {a : UInt8} (h : isDig a = true) : 48 ≤ a.toNat ∧ a.toNat ≤ 57 := by simpa [isDig] using h
theorem less_head {a b : UInt8} {x y : List UInt8} (h : a.toNat < b.toNat) : Op.bytesLess (a :: x) (b :: y) = true := by
  simp [Op.bytesLess, UInt8.lt_iff_toNat_lt, h]
theorem less_not {a b : UInt8} {x y : List UInt8} (h : b.toNat < a.toNat) : Op.bytesLess (a :: x) (b :: y) = false := by
  have h1 : ¬ a.toNat < b.toNat := by omega
  have h2 : ¬ a = b := by rintro rfl; omega
  simp [Op.bytesLess, UInt8.lt_iff_toNat_lt, h1, h2]
theorem less_same {a b : UInt8} {x y : List UInt8} (h : a.toNat = b.toNat) : Op.bytesLess (a :: x) (b :: y) = Op.bytesLess x y := by
  have : a = b := UInt8.toNat_inj.1 h
  subst this
  simp [Op.bytesLess, UInt8.lt_iff_toNat_lt]
theorem less_or {a b : UInt8} {x y : List UInt8} (h : b.toNat ≤ a.toNat) (hx : Op.bytesLess x y = false) : Op.bytesLess (a :: x) (b :: y) = false := by
  rcases Nat.lt_or_ge b.toNat a.toNat with h1 | h1
  · exact less_not h1
  · rw [less_same (by omega)]; exact hx
theorem less_end (x : List UInt8) : Op.bytesLess x [] = false := by cases x <;> rfl
theorem stat_cases {s : ByteArray} (h : s.size = 3) (hd : digitsB s = true) :
    (statB s = false ∧ Op.bytesLess s.toList [49, 48, 48] = true) ∨
    (statB s = false ∧ Op.bytesLess s.toList [49, 48, 48] = false ∧ Op.bytesLess s.toList [53, 57, 57] = false ∧ (s.toList == [53, 57, 57]) = false) ∨
    (statB s = true ∧ Op.bytesLess s.toList [49, 48, 48] = false ∧ Op.bytesLess s.toList [53, 57, 57] = true) ∨
    (statB s = true ∧ Op.bytesLess s.toList [49, 48, 48] = false ∧ Op.bytesLess s.toList [53, 57, 57] = false ∧ (s.toList == [53, 57, 57]) = true) := by
  obtain ⟨a, b, c, hs, h0, ha, hb, hc⟩ := three h hd
  have hl : s.toList = [a, b, c] := by rw [ByteArray.toList_eq]; exact hs
  obtain ⟨a1, a2⟩ := dig_le ha
  obtain ⟨b1, b2⟩ := dig_le hb
  obtain ⟨c1, c2⟩ := dig_le hc
  have n48 : (48 : UInt8).toNat = 48 := rfl
  have n49 : (49 : UInt8).toNat = 49 := rfl
  have n53 : (53 : UInt8).toNat = 53 := rfl
  have n57 : (57 : UInt8).toNat = 57 := rfl
  have hst : statB s = decide (49 ≤ a.toNat ∧ a.toNat ≤ 53) := by rw [statB, hd, h0]; simp [h]
  rw [hst, hl]
  by_cases q1 : a.toNat < 49
  · exact .inl ⟨decide_eq_false (by omega), less_head (by omega)⟩
  · have hlo : Op.bytesLess [a, b, c] [49, 48, 48] = false := less_or (by omega) (less_or (by omega) (less_or (by omega) (less_end _)))
    by_cases q2 : 53 < a.toNat
    · refine .inr (.inl ⟨decide_eq_false (by omega), hlo, less_not (by omega), ?_⟩)
      rw [beq_eq_false_iff_ne]
      intro e
      have : a = 53 := (List.cons.inj e).1
      rw [this] at q2; simp at q2
    · by_cases q3 : [a, b, c] = [53, 57, 57]
      · refine .inr (.inr (.inr ⟨decide_eq_true (by omega), hlo, ?_, by rw [q3]; rfl⟩))
        rw [q3]; decide
      · refine .inr (.inr (.inl ⟨decide_eq_true (by omega), hlo, ?_⟩))
        rcases Nat.lt_or_ge a.toNat 53 with r | r
        · exact less_head (by omega)
        · rw [less_same (by omega)]
          rcases Nat.lt_or_ge b.toNat 57 with r2 | r2
          · exact less_head (by omega)
          · rw [less_same (by omega)]
            rcases Nat.lt_or_ge c.toNat 57 with r3 | r3
            · exact less_head (by omega)
            · exfalso; apply q3
              rw [show a = 53 from UInt8.toNat_inj.1 (by omega), show b = 57 from UInt8.toNat_inj.1 (by omega), show c = 57 from UInt8.toNat_inj.1 (by omega)]
theorem num3 {s : ByteArray} (h : s.size = 3) (hd : digitsB s = true) : ∃ a b c : UInt8, s[0]'(by omega) = a ∧ s[1]'(by omega) = b ∧ s[2]'(by omega) = c ∧ isDig a = true ∧ isDig b = true ∧ isDig c = true ∧ statB s = decide (49 ≤ a.toNat ∧ a.toNat ≤ 53) ∧ numF s.data.toList = 100 * (a.toNat - 48) + 10 * (b.toNat - 48) + (c.toNat - 48) := by
  obtain ⟨a, b, c, hs, h0, ha, hb, hc⟩ := three h hd
  refine ⟨a, b, c, ?_, ?_, ?_, ha, hb, hc, by rw [statB, hd, h0]; simp [h], ?_⟩
  · rw [← get_toList s 0 (by omega)]; simp [hs]
  · rw [← get_toList s 1 (by omega)]; simp [hs]
  · rw [← get_toList s 2 (by omega)]; simp [hs]
  · rw [hs, numF]; simp only [List.foldl_cons, List.foldl_nil]; omega
theorem stat_size {s : ByteArray} (h : ¬ s.size = 3) : statB s = false := by simp [statB, h]
theorem stat_dig {s : ByteArray} (h : digitsB s = false) : statB s = false := by simp [statB, h]
end Go.Proofs.YtfljibjjpgdmhaaGreatDoor
