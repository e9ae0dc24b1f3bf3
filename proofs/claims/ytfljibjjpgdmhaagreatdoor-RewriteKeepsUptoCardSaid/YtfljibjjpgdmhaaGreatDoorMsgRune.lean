/- strings.IndexRune at the three bytes that no value may hold, and a rune beyond ASCII: nowhere. -/
import Derived.Test.YtfljibjjpgdmhaaGreatDoorMsgName
import Derived.Test.YtfljibjjpgdmhaaGreatDoorMsgValPure
import Derived.Deep.DeepCutAuto
import Derived.Scope
set_option linter.unusedVariables false
set_option linter.unusedSimpArgs false
set_option linter.unusedSectionVars false
namespace Go.Proofs.YtfljibjjpgdmhaaGreatDoor
open Go.RowKit
theorem ext_low {S : ByteArray} (h : ∀ j (h : j < S.size), S[j].toNat < 128) (a b : Nat) : ∀ y ∈ (S.extract a b).data.toList, y.toNat < 128 := by
  intro y hy
  rw [ByteArray.data_extract, Array.toList_extract] at hy
  have hm : y ∈ S.data.toList := List.mem_of_mem_drop (List.mem_of_mem_take (by simpa [List.extract] using hy))
  obtain ⟨j, hj, rfl⟩ := List.mem_iff_getElem.1 hm
  rw [size_toList] at hj
  rw [get_toList S j hj]
  exact h j hj
theorem idx_none : ∀ (l : List UInt8) (x : UInt8), (∀ y ∈ l, y ≠ x) → Lib.indexByte l x = -1
  | [], _, _ => rfl
  | b :: t, x, h => by
    have h1 : (b == x) = false := by rw [beq_eq_false_iff_ne]; exact h b (by simp)
    have h2 := idx_none t x (fun y hy => h y (by simp [hy]))
    simp [Lib.indexByte, h1, h2]
theorem idx_high (T : ByteArray) (x : UInt8) (h : ∀ y ∈ T.data.toList, y ≠ x) (w : World) (n : Nat) :
    Calls Tryz.prog 84 #[.string T, .int .u8 x.toNat] (w.drewN n) fun e w' => e = .returned (.int .i64 (-1)) ∧ w' = w.drewN n := by
  refine (Tryz.strings_IndexByte T x.toNat _).mono ?_
  rintro e w' ⟨rfl, rfl⟩
  refine ⟨?_, rfl⟩
  have : ((x.toNat : Int).toNat).toUInt8 = x := by simp
  rw [this, idx_none _ _ h]
set_option maxHeartbeats 2000000 in
set_option maxRecDepth 100000 in
theorem runeHigh_any (c : Int) (h : 128 ≤ c) (hne : c ≠ 65533) (w : World) :
    Calls Tryz.prog 100 #[.string crlf, .int .i32 c] w fun e w' => e = .returned (.int .i64 (-1)) ∧ Below w.heap.size w w' := by
  generalize hs : crlf = S
  have HSZ : Hid (S.size = 3) := Lib.hid (by rw [← hs]; rfl)
  have HG : Hid (∀ j (h : j < S.size), S[j].toNat < 128) := Lib.hid (by subst hs; exact crlf_get)
  clear hs
  have hb : (c == 65533) = false := by simp; exact hne
  clear hne
  generalize hv : Lib.validRune c = v
  have HV := Lib.hid hv
  clear hv
  cases v with
  | false =>
    go_enter Tryz.func100, Tryz.ntmps100
    go_wp2_with fail
    refine (Tryz.utf8_ValidRune _ _).mono ?_
    rw [HV.out]
    rintro e w1 ⟨rfl, rfl⟩
    go_wp2_with fail
    go_ret
    exact ⟨rfl, Below.refl _ _⟩
  | true =>
    obtain ⟨c', rfl⟩ := Int.eq_ofNat_of_zero_le (a := c) (by omega)
    obtain ⟨e2, e4, e5⟩ := enc_last c' (by omega)
    generalize hcc : (c' : Int) = c at *
    generalize hE : Utf8.encode c = E at *
    have HE := Lib.hid hE
    have H5 := Lib.hid e5
    clear hE e5
    go_enter Tryz.func100, Tryz.ntmps100
    go_wp2_with fail
    refine (Tryz.utf8_ValidRune _ _).mono ?_
    rw [HV.out]
    rintro e w1 ⟨rfl, rfl⟩
    go_wp2_with fail
    have hcv : ∀ w, (convert 21 9 (.int .i32 c)).run Tryz.prog w = .ok (.string E) w := fun w => by
      rw [← HE.out]
      simp [convert, Conv.intToString, run_underlying Tryz.underlying21, run_underlying Tryz.underlying9]
    obtain ⟨q, hq⟩ : ∃ q : Nat, E.size = q + 1 := ⟨E.size - 1, by omega⟩
    have HQ := Lib.hid hq
    have hsz : S.size = 3 := HSZ.out
    have hx := H5.out q (by omega) (by omega)
    have hxb := byte_lt (E[q]'(by omega))
    refine wp_scope_straight ?_
    go_wp2_with fail
    go_loop [9] (fun i => i = .int .i64 q) (fun _ => 0)
    case atStart => rfl
    case round =>
      obtain rfl := hrel
      obtain rfl | rfl | h3 : q = 1 ∨ q = 2 ∨ ¬ q < 3 := by omega
      · have hy := HG.out 1 (by omega)
        have hne : ((S[1]'(by omega)).toNat : Int) ≠ ((E[1]'(by omega)).toNat : Int) := by omega
        have hb2 : (((S[1]'(by omega)).toNat : Int) == ((E[1]'(by omega)).toNat : Int)) = false := by simp; omega
        have HI := Lib.hid (idx_high (S.extract (1 + 1) 3) (E[1]'(by omega)) (by
          intro y hy2 e
          subst e
          have := ext_low HG.out (1 + 1) 3 _ hy2
          omega))
        go_wp2_with fail
        refine wp_scope_straight ?_
        go_wp2_with fail
        go_region
        go_wp2_with fail
        have hw2 : IntKind.i64.wrap 2 = 2 := by decide
        have hw3 : IntKind.i64.wrap 3 = 3 := by decide
        go_quiet (first | (go_at_call 84; exact (HI.out _ _).mono (fun _ _ h => ⟨h.1, _, h.2⟩)))
        go_wp2_with fail
        rw [Exit.noGoto_ret]
        go_wp2_with fail
        rw [Exit.noGoto_ret]
        trace_state
        go_wp2_with fail
        go_ret
        exact ⟨rfl, ⟨rfl, rfl, rfl, Nat.le_refl _, fun _ _ => rfl⟩⟩
      · have hy := HG.out 2 (by omega)
        have hne : ((S[2]'(by omega)).toNat : Int) ≠ ((E[2]'(by omega)).toNat : Int) := by omega
        have hb2 : (((S[2]'(by omega)).toNat : Int) == ((E[2]'(by omega)).toNat : Int)) = false := by simp; omega
        have HI := Lib.hid (idx_high ByteArray.empty (E[2]'(by omega)) (by intro y hy2; exact absurd hy2 (by show ¬ y ∈ ([] : List UInt8); simp)))
        go_wp2_with fail
        refine wp_scope_straight ?_
        go_wp2_with fail
        go_region
        go_wp2_with fail
        have hw2 : IntKind.i64.wrap 2 = 2 := by decide
        have hw3 : IntKind.i64.wrap 3 = 3 := by decide
        go_quiet (first | (go_at_call 84; exact (HI.out _ _).mono (fun _ _ h => ⟨h.1, _, h.2⟩)))
        go_wp2_with fail
        rw [Exit.noGoto_ret]
        go_wp2_with fail
        rw [Exit.noGoto_ret]
        trace_state
        go_wp2_with fail
        go_ret
        exact ⟨rfl, ⟨rfl, rfl, rfl, Nat.le_refl _, fun _ _ => rfl⟩⟩
      · go_wp2_with fail
        go_ret
        exact ⟨rfl, Below.refl _ _⟩
end Go.Proofs.YtfljibjjpgdmhaaGreatDoor
