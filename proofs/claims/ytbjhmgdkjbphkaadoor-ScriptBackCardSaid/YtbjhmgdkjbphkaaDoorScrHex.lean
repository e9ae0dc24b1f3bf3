/- hex and digits: bytes' digits. -/
import Derived.Test.YtbjhmgdkjbphkaaDoorScrTold
import Derived.Test.YtbjhmgdkjbphkaaDoorScrBuild
import Derived.Test.YtbjhmgdkjbphkaaDoorPush
set_option linter.unusedVariables false
set_option linter.unusedSimpArgs false
set_option linter.unusedSectionVars false
namespace Go.Proofs.YtbjhmgdkjbphkaaDoor
open Go.RowKit
def hexD (n : Nat) : UInt8 := if n < 10 then UInt8.ofNat (48 + n) else UInt8.ofNat (87 + n)
def hexL (l : List Int) : List UInt8 := l.flatMap (fun x => [hexD (x.toNat / 16), hexD (x.toNat % 16)])
theorem hexL_len (l : List Int) : (hexL l).length = 2 * l.length := by
  unfold hexL
  induction l with
  | nil => rfl
  | cons x t ih => rw [List.flatMap_cons, List.length_append, ih]; simp; omega
theorem hexL_snoc (l : List Int) (x : Int) : hexL (l ++ [x]) = hexL l ++ [hexD (x.toNat / 16), hexD (x.toNat % 16)] := by
  unfold hexL
  rw [List.flatMap_append]
  simp
def hexS : ByteArray := ⟨#[48, 49, 50, 51, 52, 53, 54, 55, 56, 57, 97, 98, 99, 100, 101, 102]⟩
theorem hexS_at : ∀ n : Nat, n < 16 → hexS.data[n]? = some (hexD n) := by decide
theorem hexS_size : hexS.size = 16 := rfl
theorem hexS_get (n : Nat) (h : n < hexS.size) : hexS[n] = hexD n := by
  have h1 := hexS_at n h
  have h2 : hexS.data[n]? = some hexS.data[n] := Array.getElem?_eq_getElem h
  rw [h1] at h2
  exact (Option.some.inj h2).symm
theorem byteCells_len (a : List UInt8) : (Lib.byteCells a).length = a.length := by simp [Lib.byteCells]
theorem byteCells_app (a b : List UInt8) : Lib.byteCells (a ++ b) = Lib.byteCells a ++ Lib.byteCells b := by simp [Lib.byteCells]
set_option maxHeartbeats 1000000 in
set_option maxRecDepth 100000 in
theorem hex_any (A : Option Addr) (cap : Nat) (l : List Int) (w : World) (hl : BytesAt w A l) (hm : l.length ≤ 1048576) (hw : ∀ y ∈ l, (Lit.int .u8 y).wf = true) :
    Calls Tryd.prog 15 #[.slice A l.length cap] w fun e w' => e = .returned (.string ⟨(hexL l).toArray⟩) ∧ Below w.heap.size w w' := by
  have HL := Lib.hid hl
  have HW := Lib.hid hw
  clear hl hw
  go_enter Tryd.func15, Tryd.ntmps15
  go_wp2_with fail
  generalize hw1 : w.alloc (.cells #[.pointer none, .slice none 0 0] 47) = w1 at *
  have HB1 : Hid (BuildAt w.heap.size w.heap.size (Lib.byteCells []) w1) := Lib.hid (hw1 ▸ b_new w)
  have HL1 : Hid (Below w.heap.size w w1) := Lib.hid (hw1 ▸ below_al (Below.refl _ _) _)
  clear hw1
  go_loopw [8] (fun v8 wr => ∃ k : Nat, v8 = .int .i64 k ∧ k ≤ l.length ∧ Hid (BuildAt w.heap.size w.heap.size (Lib.byteCells (hexL (l.take k))) wr) ∧ Hid (Below w.heap.size w wr)) (fun v8 _ => l.length - (intOf v8).toNat)
  case atStart => exact ⟨0, rfl, by omega, Lib.hid (by simpa [hexL] using HB1.out), HL1⟩
  case round =>
    obtain ⟨k, rfl, hk, HB, HBL⟩ := hrel
    by_cases hlt : k < l.length
    · obtain ⟨g, o, rfl, c0, hg⟩ := (HL.out.below HBL.out).get k hlt
      have hwx := HW.out l[k] (List.getElem_mem hlt)
      obtain ⟨hx0, hx1⟩ := bounds_u8 hwx
      have HTK : Hid (hexL (l.take (k + 1)) = hexL (l.take k) ++ [hexD (l[k].toNat / 16), hexD (l[k].toNat % 16)]) := Lib.hid (by rw [List.take_succ_eq_append_getElem hlt, hexL_snoc])
      have HLN : Hid ((hexL (l.take k)).length ≤ 2097152) := Lib.hid (by rw [hexL_len, List.length_take]; omega)
      generalize l[k] = x at *
      obtain ⟨x, rfl⟩ := Int.eq_ofNat_of_zero_le hx0
      have hx2 : x < 256 := by omega
      go_wp2_with fail
      refine (b_byte _ _ _ _ _ HB.out (by rw [byteCells_len]; have := HLN.out; omega) HBL.out.size).mono ?_
      rintro e w2 ⟨rfl, h2, k2⟩
      have HB2 := Lib.hid h2
      have HBL2 := Lib.hid (HBL.out.trans k2)
      clear h2 k2
      go_wp2_with fail
      refine (b_byte _ _ _ _ _ HB2.out (by rw [List.length_append, byteCells_len]; have := HLN.out; simp; omega) HBL2.out.size).mono ?_
      rintro e w3 ⟨rfl, h3, k3⟩
      have HB3 := Lib.hid h3
      have HBL3 := Lib.hid (HBL2.out.trans k3)
      clear h3 k3
      go_wp2_with fail
      go_roundw
      case rel =>
        refine ⟨k + 1, by go_num, by omega, Lib.hid ?_, HBL3⟩
        rw [HTK.out, byteCells_app]
        have e3 := HB3.out
        rw [List.append_assoc] at e3
        have q1 := hexS_get (x / 16) (by rw [hexS_size]; omega)
        have q2 := hexS_get (x % 16) (by rw [hexS_size]; omega)
        unfold hexS at q1 q2
        rw [q1, q2] at e3
        exact e3
      case measure => simp [intOf]; omega
    · obtain rfl : k = l.length := by omega
      go_wp2_with fail
      refine (b_done _ _ _ _ HB.out HBL.out.size).mono ?_
      rintro e w2 ⟨rfl, k2⟩
      have HBL2 := Lib.hid (HBL.out.trans k2)
      clear k2
      go_wp2_with fail
      go_ret
      exact ⟨rfl, HBL2.out⟩
end Go.Proofs.YtbjhmgdkjbphkaaDoor
