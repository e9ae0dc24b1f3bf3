/- The walks of Plain, the program's and the reference's: a status alone. -/
import Derived.Test.YtfljibjjpgdmhaaGreatDoorRwTrail
import Derived.Test.YtfljibjjpgdmhaaGreatDoorShelf
import Derived.Test.YtfljibjjpgdmhaaGreatDoorRows
import Derived.Lib.LaidTab
import Derived.LaidSub
import Derived.Lib.AppendIntMem
set_option linter.unusedVariables false
set_option linter.unusedSimpArgs false
set_option linter.unusedSectionVars false
namespace Go.Proofs.YtfljibjjpgdmhaaGreatDoor
open Go.RowKit
def dig3 (N : Nat) : ByteArray := ⟨#[UInt8.ofNat (48 + N / 100), UInt8.ofNat (48 + N / 10 % 10), UInt8.ofNat (48 + N % 10)]⟩
def plainH (N : Nat) : Hdr := ⟨⟨#[58, 115, 116, 97, 116, 117, 115]⟩, dig3 N, false⟩
theorem itoa_fin : ∀ N : Nat, N < 1000 → (Lib.itoa (1000 + (N : Int))).toArray = #[49, UInt8.ofNat (48 + N / 100), UInt8.ofNat (48 + N / 10 % 10), UInt8.ofNat (48 + N % 10)] := by decide +kernel
theorem ext3 (a b c d : UInt8) : (⟨#[a, b, c, d]⟩ : ByteArray).extract 1 4 = ⟨#[b, c, d]⟩ := rfl
theorem size4 (a b c d : UInt8) : (⟨#[a, b, c, d]⟩ : ByteArray).size = 4 := rfl
def PlainPost (N : Nat) (w : World) (e : Ending) (w' : World) : Prop := ∃ g, e = .returned (.slice (some ⟨g, 0, none⟩) 1 1) ∧ BlockIs w' g (plainH N).cells ∧ Below w.heap.size w w'
theorem mod_nat (st : Int) : ∃ N : Nat, (st.tmod 1000 + 1000).tmod 1000 = (N : Int) ∧ (st.tmod 1000 + 1000) % 1000 = (N : Int) ∧ N < 1000 ∧ -1000 < st.tmod 1000 ∧ st.tmod 1000 < 1000 := by
  have h1 : -1000 < st.tmod 1000 ∧ st.tmod 1000 < 1000 := by
    have := Int.tmod_lt_of_pos st (show (0 : Int) < 1000 by decide)
    have := Int.lt_tmod_of_pos st (show (0 : Int) < 1000 by decide)
    omega
  refine ⟨((st.tmod 1000 + 1000) % 1000).toNat, ?_, by omega, by omega, h1.1, h1.2⟩
  rw [Int.tmod_eq_emod_of_nonneg (by omega)]
  omega
theorem itoa_any (N : Nat) (w : World) (hN : N < 1000) (htab : Lib.TabIs Tryz.prog w "internal/strconv.uint64pow10" .u64 Lib.pow10Tab) :
    ∃ S : ByteArray, S.extract 1 4 = dig3 N ∧ S.size = 4 ∧ Calls Tryz.prog 40 #[.int .i64 (1000 + (N : Int))] w fun e w' => e = .returned (.string S) ∧ Below w.heap.size w w' := by
  have h := Tryz.strconv_Itoa (1000 + (N : Int)) (by omega) (by omega) w htab
  have hf := itoa_fin N hN
  generalize (Lib.itoa (1000 + (N : Int))).toArray = L at h hf
  refine ⟨⟨L⟩, by rw [hf]; exact ext3 _ _ _ _, by rw [hf]; exact size4 _ _ _ _, h.mono ?_⟩
  rintro e w1 ⟨rfl, k, os, hw⟩
  exact ⟨rfl, by rw [hw]; exact Lib.below_grow _ _ (Nat.le_refl _) _ _⟩
set_option maxHeartbeats 1000000 in
set_option maxRecDepth 100000 in
theorem plain_any (st : Int) (N : Nat) (w : World) (h1 : (st.tmod 1000 + 1000).tmod 1000 = (N : Int)) (h2 : (st.tmod 1000 + 1000) % 1000 = (N : Int)) (hN : N < 1000) (hl1 : -1000 < st.tmod 1000) (hl2 : st.tmod 1000 < 1000) (htab : Lib.TabIs Tryz.prog w "internal/strconv.uint64pow10" .u64 Lib.pow10Tab) :
    Calls Tryz.prog 21 #[.int .i64 st] w (PlainPost N w) := by
  obtain ⟨S, hx, hsz, hit⟩ := itoa_any N w hN htab
  have HIT := Lib.hid hit
  have HPH : Hid ((plainH N).cells = [.string ⟨#[58, 115, 116, 97, 116, 117, 115]⟩, .string (dig3 N), .bool false]) := Lib.hid rfl
  generalize hD : dig3 N = D at hx HPH
  unfold PlainPost
  generalize (plainH N).cells = C at *
  clear htab hit hD
  go_enter Tryz.func21, Tryz.ntmps21
  go_wp2_with fail
  refine HIT.out.mono ?_
  rintro e w1 ⟨rfl, hb⟩
  have HB := Lib.hid hb
  clear hb
  go_wp2_with fail
  go_ret
  rw [HPH.out]
  exact ⟨_, rfl, BlockIs.new w1 [.string ⟨#[58, 115, 116, 97, 116, 117, 115]⟩, .string D, .bool false] _, below_al HB.out _⟩
theorem conv3 (w : World) (x0 x1 x2 : Int) (b0 b1 b2 : UInt8) (h0 : (b0.toNat : Int) = x0) (h1 : (b1.toNat : Int) = x1) (h2 : (b2.toNat : Int) = x2) (T : TypeId) :
    (convert 31 9 (.slice (some ⟨w.heap.size, 0, none⟩) 3 3)).run Tryz.prog (w.alloc (.cells #[.int .u8 x0, .int .u8 x1, .int .u8 x2] T)) = .ok (.string ⟨#[b0, b1, b2]⟩) (w.alloc (.cells #[.int .u8 x0, .int .u8 x1, .int .u8 x2] T)) := by
  subst h0; subst h1; subst h2
  have hb := BlockIs.new w [.int .u8 b0.toNat, .int .u8 b1.toNat, .int .u8 b2.toNat] T
  refine run_convert_bytes_back _ 31 9 5 ⟨w.heap.size, 0, none⟩ 3 [b0, b1, b2] Tryz.underlying31 Tryz.underlying5 Tryz.underlying9 ?_
  intro j hj
  match j, hj with
  | 0, _ => exact hb.cell 0
  | 1, _ => exact hb.cell 1
  | 2, _ => exact hb.cell 2
theorem digN (k : Nat) (h : k < 10) : ((UInt8.ofNat (48 + k)).toNat : Int) = 48 + (k : Int) := by
  rw [UInt8.toNat_ofNat']; omega
set_option maxHeartbeats 1000000 in
set_option maxRecDepth 100000 in
theorem awake14_any (w : World) (htab : Lib.TabIs Tryz.prog w "internal/strconv.uint64pow10" .u64 Lib.pow10Tab) : Calls Tryz.prog 9 #[] w fun e w' => e = .returned (.bool true) ∧ Below w.heap.size w w' := by
  have HT := Lib.hid htab
  clear htab
  have HP : Hid (Calls Tryz.prog 21 #[.int .i64 502] w fun e w' => ∃ g, e = .returned (.slice (some ⟨g, 0, none⟩) 1 1) ∧ BlockIs w' g [.string ⟨#[58, 115, 116, 97, 116, 117, 115]⟩, .string ⟨#[53, 48, 50]⟩, .bool false] ∧ Below w.heap.size w w') := Lib.hid (plain_any 502 502 w (by decide) (by decide) (by decide) (by decide) (by decide) HT.out)
  go_enter Tryz.func9, Tryz.ntmps9
  go_wp2_with fail
  refine HP.out.mono ?_
  rintro e w1 ⟨g, rfl, hb, hl⟩
  have y0 := hb.cell 0
  have y1 := hb.cell 1
  have yl := hb.lt
  simp only [List.getElem?_cons_zero, List.getElem?_cons_succ] at y0 y1
  have HB := Lib.hid hl
  clear hb hl
  go_wp2_with fail
  go_ret
  exact ⟨rfl, HB.out⟩
end Go.Proofs.YtfljibjjpgdmhaaGreatDoor
