/- The program's read: the token of a word that Print has written. -/
import Derived.Test.YtbjhmgdkjbphkaaDoorScrBytes
import Derived.Test.YtbjhmgdkjbphkaaDoorShelf2
import Derived.Lib.AtoiErrMem
set_option linter.unusedVariables false
set_option linter.unusedSimpArgs false
set_option linter.unusedSectionVars false
namespace Go.Proofs.YtbjhmgdkjbphkaaDoor
open Go.RowKit
theorem dec_app : ∀ (l : List UInt8) (acc : Nat) (b : UInt8), Lib.decFrom acc (l ++ [b]) = (Lib.decFrom acc l).bind (fun m => (Lib.digitVal b).map (fun d => m * 10 + d))
  | [], acc, b => by
    simp only [List.nil_append, Lib.decFrom, Option.bind_some]
    cases Lib.digitVal b <;> rfl
  | a :: t, acc, b => by
    simp only [List.cons_append, Lib.decFrom]
    cases h : Lib.digitVal a with
    | none => rfl
    | some d => exact dec_app t _ b
theorem digit_val : ∀ k : Nat, k < 10 → Lib.digitVal (UInt8.ofNat (48 + k)) = some k := by decide
theorem dec_digits (n : Nat) : Lib.decFrom 0 (Lib.decDigits n) = some n := by
  induction n using Nat.strongRecOn with
  | ind n ih =>
    rw [Lib.decDigits]
    split
    · rename_i h
      simp only [Lib.decFrom, digit_val n h]
      simp
    · rename_i h
      rw [dec_app, ih (n / 10) (by omega), Option.bind_some, digit_val _ (by omega)]
      simp; omega
theorem dec_head (n : Nat) : ∃ k t, k < 10 ∧ Lib.decDigits n = UInt8.ofNat (48 + k) :: t := by
  induction n using Nat.strongRecOn with
  | ind n ih =>
    rw [Lib.decDigits]
    split
    · rename_i h
      exact ⟨n, [], h, rfl⟩
    · rename_i h
      obtain ⟨k, t, hk, e⟩ := ih (n / 10) (by omega)
      exact ⟨k, t ++ [UInt8.ofNat (48 + n % 10)], hk, by rw [e]; rfl⟩
theorem digit_ne : ∀ k : Nat, k < 10 → (UInt8.ofNat (48 + k) == 45) = false ∧ (UInt8.ofNat (48 + k) == 43) = false ∧ (UInt8.ofNat (48 + k) == 61) = false := by decide
theorem atoi_dec (n : Nat) : Lib.atoi (Lib.decDigits n) = some (n : Int) := by
  obtain ⟨k, t, hk, e⟩ := dec_head n
  have hd := dec_digits n
  obtain ⟨h1, h2, _⟩ := digit_ne k hk
  rw [e] at hd ⊢
  simp only [Lib.atoi, h1, h2, Bool.false_eq_true, if_false, Lib.decNat, List.isEmpty_cons, hd]
  rfl
theorem dec_len9 {n : Nat} (h : n ≤ 999999999) : (Lib.decDigits n).length ≤ 9 := by
  have key : ∀ (k n : Nat), n < 10 ^ k → 1 ≤ k → (Lib.decDigits n).length ≤ k := by
    intro k
    induction k with
    | zero => intro n h h1; omega
    | succ k ih =>
      intro n h h1
      rw [Lib.decDigits]
      split
      · simp
      · rename_i h2
        have hk : 1 ≤ k := by
          rcases Nat.eq_zero_or_pos k with rfl | h3
          · simp at h; omega
          · exact h3
        have := ih (n / 10) (by rw [Nat.pow_succ] at h; omega) hk
        simp; omega
  exact key 9 n (by omega) (by decide)
theorem pre_dec (n : Nat) : Lib.hasPrefix (Lib.decDigits n) [61] = false := by
  obtain ⟨k, t, hk, e⟩ := dec_head n
  rw [e]
  unfold Lib.hasPrefix
  have h := (digit_ne k hk).2.2
  have h2 : ((61 : UInt8) == UInt8.ofNat (48 + k)) = false := by
    cases h3 : ((61 : UInt8) == UInt8.ofNat (48 + k)) with
    | false => rfl
    | true => rw [beq_iff_eq] at h3; rw [← h3] at h; simp at h
  simp only [List.isPrefixOf, h2, Bool.false_and]
set_option maxHeartbeats 1000000 in
set_option maxRecDepth 100000 in
theorem read_num (n : Nat) (hn : n ≤ 999999999) (w : World) (ht2 : tabP w) :
    Calls Tryd.prog 32 #[.string ⟨(Lib.decDigits n).toArray⟩] w fun e w' => e = .returned (.iface 76 (.agg #[.int .i64 n, .bool true])) ∧ Below w.heap.size w w' := by
  have hlen := dec_len9 hn
  have H1 := Lib.hid (fun w => Tryd.strings_CutPrefix ⟨(Lib.decDigits n).toArray⟩ ⟨#[61]⟩ w)
  have hp : Lib.hasPrefix (⟨(Lib.decDigits n).toArray⟩ : ByteArray).data.toList (⟨#[61]⟩ : ByteArray).data.toList = false := pre_dec n
  rw [hp] at H1
  have hsz := size_mk (Lib.decDigits n)
  have H2 := Lib.hid (fun w => Tryd.strconv_Atoi ⟨(Lib.decDigits n).toArray⟩ n (by rw [size_mk]; omega) (atoi_dec n) w)
  have H3 := Lib.hid (fun w' (hb : Below w.heap.size w w') => itoa_any (n : Int) w' (by omega) (by omega) (tabP_below ht2 hb))
  rw [itoa_nat] at H3
  clear hp ht2
  have hni : (n : Int) ≤ 999999999 := by omega
  generalize (Lib.trimPrefix (⟨(Lib.decDigits n).toArray⟩ : ByteArray).data.toList (⟨#[61]⟩ : ByteArray).data.toList).toArray = R at *
  have hl9 : ((⟨(Lib.decDigits n).toArray⟩ : ByteArray).size : Int) ≤ 9 := by rw [hsz]; omega
  clear hsz
  generalize (⟨(Lib.decDigits n).toArray⟩ : ByteArray) = S at *
  go_enter Tryd.func32, Tryd.ntmps32
  go_wp2_with fail
  refine (H1.out _).mono ?_
  rintro e w1 ⟨rfl, rfl⟩
  go_wp2_with fail
  refine (H2.out _).mono ?_
  rintro e w2 ⟨rfl, t, rfl⟩
  have HB2 := Lib.hid (Lib.bytesWorld_below w1 5 t)
  generalize Lib.bytesWorld w1 5 t = w2 at *
  go_wp2_with fail
  refine (H3.out _ HB2.out).mono ?_
  rintro e w3 ⟨rfl, hb3⟩
  have HB3 := Lib.hid (below_then HB2.out hb3)
  clear hb3
  go_wp2_with fail
  go_ret
  exact ⟨rfl, HB3.out⟩
set_option maxHeartbeats 1000000 in
set_option maxRecDepth 100000 in
theorem read_data (l : List Int) (w : World) (hw : ∀ y ∈ l, (Lit.int .u8 y).wf = true) (hm : l.length ≤ 1048576) :
    Calls Tryd.prog 32 #[.string ⟨(61 :: hexL l).toArray⟩] w fun e w' => ∃ v, e = .returned (.iface 74 (.agg #[v, .bool true])) ∧ OwnsU w.heap.size w' v (l.map u8of) ∧ Below w.heap.size w w' := by
  have H1 := Lib.hid (fun w => Tryd.strings_CutPrefix ⟨(61 :: hexL l).toArray⟩ ⟨#[61]⟩ w)
  have hp : Lib.hasPrefix (⟨(61 :: hexL l).toArray⟩ : ByteArray).data.toList (⟨#[61]⟩ : ByteArray).data.toList = true := rfl
  have hr : (Lib.trimPrefix (⟨(61 :: hexL l).toArray⟩ : ByteArray).data.toList (⟨#[61]⟩ : ByteArray).data.toList).toArray = (hexL l).toArray := rfl
  rw [hp, hr] at H1
  have H2 := Lib.hid (bytes_walk l w hw hm)
  clear hp hr hw
  generalize (⟨(61 :: hexL l).toArray⟩ : ByteArray) = S at *
  generalize (hexL l).toArray = R at *
  go_enter Tryd.func32, Tryd.ntmps32
  go_wp2_with fail
  refine (H1.out _).mono ?_
  rintro e w1 ⟨rfl, rfl⟩
  go_wp2_with fail
  refine H2.out.mono ?_
  rintro e w2 ⟨v, rfl, ho, hb⟩
  have HO := Lib.hid ho
  have HB := Lib.hid hb
  clear ho hb
  go_wp2_with fail
  go_ret
  exact ⟨v, rfl, HO.out, HB.out⟩
set_option maxHeartbeats 400000 in
theorem as_nil (t : Value) (w : World) : Calls Tryd.prog 25 #[.nilIface, t] w fun e w' => e = .returned (.bool false) ∧ w = w' := by
  go_enter Tryd.func25, Tryd.ntmps25
  go_wp2_with fail
  go_ret
  exact ⟨rfl, rfl⟩
end Go.Proofs.YtbjhmgdkjbphkaaDoor
