/- The law WheelFull: as many timers as may be, and one more; one that is there is set anew. -/
import Derived.Test.YtnaeplheokbokaaWhlOwn
namespace Go.Proofs.Ytnaeplheokbokaa
open Go.RowKit Go.Sort
/-- After k timers, 0 to k - 1, were set. -/
structure FullS (k : Nat) (s : PW) : Prop where
  good : s.Good
  now : s.now = 0
  set : s.set ≤ k
  len : s.ts.length = min k 1024
  ids : ∀ t ∈ s.ts, t.id < k
  first : 0 < k → (tfind 0 s.ts).isSome = true
theorem tfind_above {i : Int} {l : List Tm} (h : ∀ t ∈ l, t.id < i) : tfind i l = none := by
  cases hf : tfind i l with
  | none => rfl
  | some t =>
    obtain ⟨h1, h2⟩ := tfind_some hf
    have := h t h1
    omega
theorem tfind_app {i : Int} : ∀ (l r : List Tm), (tfind i l).isSome = true → (tfind i (l ++ r)).isSome = true
  | [], _, h => by cases h
  | a :: l, r, h => by
    unfold tfind at h ⊢
    simp only [List.cons_append]
    split
    · rfl
    · rename_i e
      rw [if_neg e] at h
      exact tfind_app l r h
theorem full_step {k : Nat} {s : PW} (h : FullS k s) (a : Int) (h1 : 1 ≤ a) (h2 : a ≤ 1073741824) : (s.setF k a).2 = (if k < 1024 then 0 else 9) ∧ FullS (k + 1) (s.setF k a).1 := by
  have hn : tfind (k : Int) s.ts = none := tfind_above h.ids
  have hg := PW.setF_good h.good k a
  have hl := h.len
  by_cases hk : k < 1024
  · have e : s.setF k a = ({ now := s.now, set := s.set + 1, ts := tdel k s.ts ++ [⟨k, s.now + a, s.set⟩] }, 0) := by
      rw [PW.setF, if_neg (by omega), if_neg (by rw [hn, hl]; simp; omega)]
    rw [if_pos hk]
    rw [e] at hg ⊢
    refine ⟨rfl, hg, h.now, ?_, ?_, ?_, ?_⟩
    · have := h.set
      show s.set + 1 ≤ ((k + 1 : Nat) : Int)
      omega
    · show (tdel k s.ts ++ [_]).length = _
      rw [tdel_none hn, List.length_append, hl]
      simp; omega
    · intro t ht
      rw [tdel_none hn] at ht
      rcases List.mem_append.1 ht with ht | ht
      · have := h.ids t ht; omega
      · simp only [List.mem_singleton] at ht; subst ht; show (k : Int) < _; omega
    · intro _
      show (tfind 0 (tdel k s.ts ++ [_])).isSome = true
      rw [tdel_none hn]
      by_cases h0 : 0 < k
      · exact tfind_app _ _ (h.first h0)
      · have hk0 : k = 0 := by omega
        subst hk0
        have : s.ts = [] := List.eq_nil_of_length_eq_zero (by rw [hl]; rfl)
        rw [this]; rfl
  · have e : s.setF k a = (s, 9) := by
      rw [PW.setF, if_neg (by omega), if_pos ⟨by rw [hn]; rfl, by rw [hl]; omega⟩]
    rw [if_neg hk]
    rw [e] at hg ⊢
    refine ⟨rfl, hg, h.now, ?_, ?_, ?_, ?_⟩
    · have := h.set
      show s.set ≤ ((k + 1 : Nat) : Int)
      omega
    · show s.ts.length = _
      rw [hl]; omega
    · intro t ht
      have := h.ids t ht
      omega
    · intro _; exact h.first (by omega)
theorem full_again {k : Nat} {s : PW} (h : FullS k s) (h0 : 0 < k) : (s.setF 0 5).2 = 0 ∧ ((s.setF 0 5).1).ts.length = min k 1024 := by
  have hf := h.first h0
  have e : s.setF 0 5 = ({ now := s.now, set := s.set + 1, ts := tdel 0 s.ts ++ [⟨0, s.now + 5, s.set⟩] }, 0) := by
    rw [PW.setF, if_neg (by omega), if_neg (by rw [hf]; simp)]
  rw [e]
  refine ⟨rfl, ?_⟩
  obtain ⟨t, ht⟩ := Option.isSome_iff_exists.1 hf
  show (tdel 0 s.ts ++ [_]).length = _
  rw [List.length_append, ← h.len]
  exact tdel_len ht
theorem full_zero : FullS 0 PW.new := ⟨PW.new_good, rfl, by decide, rfl, by simp [PW.new], fun h => by omega⟩
set_option maxHeartbeats 4000000 in
set_option maxRecDepth 100000 in
theorem wheelFull_walk (n : Int) (w : World) (h : (Lit.int .u16 n).wf = true) :
    Calls Try.prog 3 #[.int .u16 n] w fun e w' => e = .returned (.bool true) ∧ Below w.heap.size w w' := by
  have hn : 0 ≤ n ∧ n ≤ 65535 := by
    simp [Lit.wf, IntKind.min, IntKind.max, IntKind.signed, IntKind.bits] at h
    omega
  clear h
  obtain ⟨hn1, hn2⟩ := hn
  obtain ⟨M, hM⟩ : ∃ M : Nat, n % 1100 = (M : Int) := ⟨(n % 1100).toNat, by omega⟩
  have hM2 : n.tmod 1100 = (M : Int) := by rw [Int.tmod_eq_emod_of_nonneg hn1]; exact hM
  have hMl : M < 1100 := by omega
  go_enter Try.func3, Try.ntmps3
  go_wp2_with fail
  refine (own_new (Below.refl _ _)).mono ?_
  rintro e w1 ⟨b, m, rfl, ho⟩
  have HO := Lib.hid ho
  clear ho
  go_wp2_with fail
  go_loopw [5] (fun i wr => ∃ (k : Nat) (s : PW), k ≤ M ∧ i = .int .i64 k ∧ Hid (FullS k s) ∧ Hid (Own w b m s wr)) (fun i _ => M - (intOf i).toNat)
  case atStart => exact ⟨0, PW.new, by omega, rfl, Lib.hid full_zero, HO⟩
  case round =>
    obtain ⟨k, s, hk, rfl, HF, HO⟩ := hrel
    by_cases hlt : k < M
    · have hm9 : (k : Int).tmod 9 = (k : Int) % 9 := Int.tmod_eq_emod_of_nonneg (by omega)
      have hr1 : 0 ≤ (k : Int) % 9 := Int.emod_nonneg _ (by decide)
      have hr2 : (k : Int) % 9 < 9 := Int.emod_lt_of_pos _ (by decide)
      obtain ⟨f1, f2⟩ := full_step HF.out (1 + (k : Int) % 9) (by omega) (by omega)
      have HF2 := Lib.hid f2
      have HSET := Lib.hid (own_set HO.out HF.out.good (by have := HF.out.now; omega) (by have := HF.out.set; omega) (k : Int) (1 + (k : Int) % 9))
      rw [f1] at HSET
      clear f1 f2
      generalize (k : Int) % 9 = r9 at *
      by_cases h1k : k < 1024
      · have h1i : (k : Int) < 1024 := by omega
        rw [if_pos h1k] at HSET
        go_wp2_with fail
        refine HSET.out.mono ?_
        rintro e w2 ⟨rfl, ho⟩
        have HO2 := Lib.hid ho
        clear ho
        go_wp2_with fail
        go_roundw
        case rel => exact ⟨k + 1, _, by omega, by go_num, HF2, HO2⟩
        case measure => simp [intOf]; omega
      · have h1i : ¬ (k : Int) < 1024 := by omega
        rw [if_neg h1k] at HSET
        go_wp2_with fail
        refine HSET.out.mono ?_
        rintro e w2 ⟨rfl, ho⟩
        have HO2 := Lib.hid ho
        clear ho
        go_wp2_with fail
        go_roundw
        case rel => exact ⟨k + 1, _, by omega, by go_num, HF2, HO2⟩
        case measure => simp [intOf]; omega
    · obtain rfl : k = M := by omega
      have hlen := HF.out.len
      by_cases h0 : 0 < k
      · have h0i : 0 < (k : Int) := by omega
        obtain ⟨f1, f2⟩ := full_again HF.out h0
        have HSET := Lib.hid (own_set HO.out HF.out.good (by have := HF.out.now; omega) (by have := HF.out.set; omega) 0 5)
        rw [f1] at HSET
        have HL2 := Lib.hid f2
        clear f1 f2 hlen
        go_wp2_with fail
        refine HSET.out.mono ?_
        rintro e w2 ⟨rfl, ho⟩
        have HO2 := Lib.hid ho
        clear ho
        go_wp2_with fail
        refine (own_len HO2.out).mono ?_
        rw [HL2.out]
        rintro e w3 ⟨rfl, rfl⟩
        by_cases h1k : k < 1024
        · have h1i : (k : Int) < 1024 := by omega
          have h1m : min (k : Int) 1024 = (k : Int) := by omega
          rw [show min k 1024 = k by omega]
          go_wp2_with fail
          refine (awake16_any _).mono ?_
          rintro e w4 ⟨rfl, hb⟩
          have HB4 := Lib.hid (below_then HO2.out.below0 hb)
          clear hb
          go_wp2_with fail
          go_ret
          exact ⟨rfl, HB4.out⟩
        · have h1m : min (k : Int) 1024 = 1024 := by omega
          rw [show min k 1024 = 1024 by omega]
          go_wp2_with fail
          refine (awake16_any _).mono ?_
          rintro e w4 ⟨rfl, hb⟩
          have HB4 := Lib.hid (below_then HO2.out.below0 hb)
          clear hb
          go_wp2_with fail
          go_ret
          exact ⟨rfl, HB4.out⟩
      · have hkz : k = 0 := by omega
        subst hkz
        have HL2 := Lib.hid hlen
        clear hlen
        go_wp2_with fail
        refine (own_len HO.out).mono ?_
        rw [HL2.out]
        rintro e w3 ⟨rfl, rfl⟩
        have h1m : min (0 : Int) 1024 = 0 := by decide
        rw [show min 0 1024 = 0 by decide]
        go_wp2_with fail
        refine (awake16_any _).mono ?_
        rintro e w4 ⟨rfl, hb⟩
        have HB4 := Lib.hid (below_then HO.out.below0 hb)
        clear hb
        go_wp2_with fail
        go_ret
        exact ⟨rfl, HB4.out⟩
end Go.Proofs.Ytnaeplheokbokaa
