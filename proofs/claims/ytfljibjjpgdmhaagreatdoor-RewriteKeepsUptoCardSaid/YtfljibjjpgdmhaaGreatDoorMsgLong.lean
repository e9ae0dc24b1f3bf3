/- The walk of strings.IndexAny at a text of more than 8 bytes and the bytes that no value may hold. -/
import Derived.Test.YtfljibjjpgdmhaaGreatDoorMsgVal
import Derived.Test.YtfljibjjpgdmhaaGreatDoorZero
import Derived.Test.YtfljibjjpgdmhaaGreatDoorShelf
import Derived.Shelf.Strings.SlTrimAscii
set_option linter.unusedVariables false
set_option linter.unusedSimpArgs false
set_option linter.unusedSectionVars false
namespace Go.Proofs.YtfljibjjpgdmhaaGreatDoor
open Go.RowKit
theorem zset : ∀ w, (zeroValue 95).run Tryz.prog w = .ok (.agg (Array.replicate 256 (.bool false))) w := zero_of (by kernel_rfl)
theorem crlf_ascii : ∀ (j : Nat) b, crlf.data.toList[j]? = some b → b.toNat < 128 := by
  intro j b h
  have : ∀ x ∈ crlf.data.toList, x.toNat < 128 := by decide
  exact this b (List.mem_of_getElem? h)
set_option maxHeartbeats 2000000 in
set_option maxRecDepth 100000 in
theorem idxAny_long (s : ByteArray) (w : World) (h8 : 8 < s.size) (hs : s.size ≤ 9223372036854775807) :
    Calls Tryz.prog 85 #[.string s, .string crlf] w (AnyPost s w) := by
  have HM : Hid (∀ w, Calls Tryz.prog 70 #[.string crlf] w fun e w' => e = .returned (.tuple #[.agg (Lib.setCells crlf.data.toList), .bool true]) ∧ w' = w.alloc (.cells (Lib.setCells crlf.data.toList) 95)) := Lib.hid (fun w => Tryz.strings_makeASCIISet zset crlf w (by decide) crlf_ascii)
  have HSC : Hid (∀ w : World, (storeCells ⟨w.heap.size + 1, 0, none⟩ (Lib.setCells crlf.data.toList).toList 0).run Tryz.prog ((w.alloc (.cells (Lib.setCells crlf.data.toList) 95)).alloc (.cells (Array.replicate 256 (.bool false)) 95)) = .ok () ((w.alloc (.cells (Lib.setCells crlf.data.toList) 95)).alloc (.cells (Lib.setCells crlf.data.toList) 95))) := Lib.hid (fun w => by
    have := run_storeCells_new (P := Tryz.prog) (w.alloc (.cells (Lib.setCells crlf.data.toList) 95)) 95 (Array.replicate 256 (.bool false)) (Lib.setCells crlf.data.toList) (by rw [Lib.setCells_size]; kernel_rfl) (by rw [Lib.setCells_size, Array.size_replicate]) (Lib.setCells_one _)
    simpa using this)
  have HAT : Hid (∀ x : UInt8, (Lib.setCells crlf.data.toList)[x.toNat]? = some (.bool (badB x))) := Lib.hid (fun x => Lib.setCells_at _ x)
  have hCz := Lib.setCells_size crlf.data.toList
  have hne : (crlf.toList == []) = false := crlf_nonempty
  have hsz : crlf.size = 3 := rfl
  generalize Lib.setCells crlf.data.toList = C at *
  generalize crlf = S at *
  have H8 : Hid (decide ((8 : Int) < (s.size : Int)) = true) := Lib.hid (decide_eq_true (by omega))
  have hzs := zset
  go_enter Tryz.func85, Tryz.ntmps85
  go_wp2_with fail
  refine (Tryz.strings_shouldUseASCIISet _ _).mono ?_
  rw [H8.out]
  rintro e w1 ⟨rfl, rfl⟩
  go_wp2_with fail
  refine (HM.out _).mono ?_
  rintro e w2 ⟨rfl, rfl⟩
  have hsc := HSC.out w1
  go_wp2_with fail
  have HCELL : Hid (∀ x : UInt8, ((w1.alloc (.cells C 95)).alloc (.cells C 95)).cell? ⟨w1.heap.size + 1, x.toNat, none⟩ = some (.bool (badB x))) := Lib.hid (fun x => by
    rw [World.cell?_alloc_at _ _ _ _ (by simp)]
    exact HAT.out x)
  clear hsc hzs
  go_loop [8] (fun i => ∃ k : Nat, k ≤ s.size ∧ i = .int .i64 k ∧ Upto (fun j => ∀ h : j < s.size, badB s[j] = false) k) (fun i => s.size - (intOf i).toNat)
  case atStart => exact ⟨0, by omega, rfl, Upto.zero _⟩
  case round =>
    obtain ⟨k, hk, rfl, hm⟩ := hrel
    have HMM := Lib.hid hm
    clear hm
    by_cases hlt : k < s.size
    · have hb := byte_lt s[k]
      cases hbad : badB s[k] with
      | true =>
        have HA := Lib.hid (any_badT s k hlt hbad)
        have hc := HCELL.out s[k]
        rw [hbad] at hc
        have HC := Lib.hid hc
        clear hc hbad
        go_wp2_with (go_at_call 86; refine (Tryz.asciiSet_contains _ s[k] _ _ HC.out).mono ?_; rintro e w' ⟨rfl, rfl⟩)
        go_ret
        refine ⟨⟨_, rfl, ?_⟩, below_al (below_al (Below.refl _ _) _) _⟩
        rw [HA.out]
        exact decide_eq_true (by omega)
      | false =>
        have HB := Lib.hid hbad
        have hc := HCELL.out s[k]
        rw [hbad] at hc
        have HC := Lib.hid hc
        clear hc hbad
        go_wp2_with (go_at_call 86; refine (Tryz.asciiSet_contains _ s[k] _ _ HC.out).mono ?_; rintro e w' ⟨rfl, rfl⟩)
        go_round
        case rel => exact ⟨k + 1, by omega, by go_num, HMM.out.succ (fun _ => HB.out)⟩
        case measure => simp [intOf]; omega
    · obtain rfl : k = s.size := by omega
      have HA := Lib.hid (any_badF s HMM.out)
      go_wp2_with fail
      go_ret
      refine ⟨⟨_, rfl, ?_⟩, below_al (below_al (Below.refl _ _) _) _⟩
      rw [HA.out]
      decide

theorem idxAny_any (s : ByteArray) (w : World) (hs : s.size ≤ 9223372036854775807) : Calls Tryz.prog 85 #[.string s, .string crlf] w (AnyPost s w) := by
  by_cases h : s.size ≤ 8
  · exact idxAny_short s w h
  · exact idxAny_long s w (by omega) hs
set_option maxHeartbeats 1000000 in
set_option maxRecDepth 100000 in
theorem hasAny_any (s : ByteArray) (w : World) (hs : s.size ≤ 9223372036854775807) :
    Calls Tryz.prog 67 #[.string s, .string crlf] w fun e w' => e = .returned (.bool (s.data.toList.any badB)) ∧ Below w.heap.size w w' := by
  have HI := Lib.hid (idxAny_any s w hs)
  go_enter Tryz.func67, Tryz.ntmps67
  go_wp2_with fail
  refine HI.out.mono ?_
  rintro e w1 ⟨⟨r, rfl, hr⟩, hb⟩
  have HB := Lib.hid hb
  have HR := Lib.hid hr
  clear hb hr
  go_wp2_with fail
  all_goals
    go_ret
    exact ⟨bool_eq (by rw [← HR.out]), HB.out⟩
set_option maxHeartbeats 1000000 in
set_option maxRecDepth 100000 in
theorem value_any (s : ByteArray) (w : World) (hs : s.size ≤ maxLen) :
    Calls Tryz.prog 53 #[.string s] w fun e w' => e = .returned (.bool (valueB s.data.toList)) ∧ Below w.heap.size w w' := by
  unfold maxLen at hs
  have HA := Lib.hid (hasAny_any s w (by omega))
  generalize ha : s.data.toList.any badB = a at *
  have HV : Hid (valueB s.data.toList = (!a && endsB s.data.toList)) := Lib.hid (by rw [valueB, ha])
  have HT : Hid (((⟨(Lib.trimS s.data.toList blanks.data.toList).toArray⟩ : ByteArray).toList == s.toList) = endsB s.data.toList) := Lib.hid (by
    rw [ByteArray.toList_eq, ByteArray.toList_eq]
    show ((Lib.trimS s.data.toList blanks.data.toList).toArray.toList == s.data.toList) = _
    rw [List.toList_toArray, trim_ends])
  clear ha
  generalize valueB s.data.toList = v at *
  go_enter Tryz.func53, Tryz.ntmps53
  go_wp2_with fail
  refine HA.out.mono ?_
  rintro e w1 ⟨rfl, hb⟩
  have HB := Lib.hid hb
  clear hb
  cases a with
  | true =>
    go_wp2_with fail
    go_ret
    exact ⟨bool_eq (by rw [HV.out]; rfl), HB.out⟩
  | false =>
    go_wp2_with fail
    refine (Any.strings_Trim_laid Tryz.lays160 (by kernel_rfl) s blanks _ (by omega) (by decide) (ascii_of_all (by decide))).mono ?_
    rintro e w2 ⟨rfl, hb⟩
    have HB2 := Lib.hid (below_then HB.out hb)
    clear hb
    generalize (⟨(Lib.trimS s.data.toList blanks.data.toList).toArray⟩ : ByteArray) = q at *
    go_wp2_with fail
    all_goals
      go_ret
      exact ⟨bool_eq (by rw [HV.out, ← HT.out]; simp), HB2.out⟩
end Go.Proofs.YtfljibjjpgdmhaaGreatDoor
