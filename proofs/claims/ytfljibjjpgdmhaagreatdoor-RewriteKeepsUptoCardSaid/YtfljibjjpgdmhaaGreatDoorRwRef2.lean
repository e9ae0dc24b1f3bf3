/- The walks of the reference's Response and Request: what is passed on. -/
import Derived.Test.YtfljibjjpgdmhaaGreatDoorRwRef1
import Derived.Test.YtfljibjjpgdmhaaGreatDoorRwReq
set_option linter.unusedVariables false
set_option linter.unusedSimpArgs false
set_option linter.unusedSectionVars false
namespace Go.Proofs.YtfljibjjpgdmhaaGreatDoor
open Go.RowKit
theorem toList_lit {n : ByteArray} {m : ByteArray} {L : List UInt8} (hm : m.toList = L) : (n.toList == L) = decide (n = m) := by
  rw [← hm]
  by_cases h : n = m
  · subst h; simp
  · rw [decide_eq_false h]
    cases q : (n.toList == m.toList) with
    | false => rfl
    | true => exact absurd (bytes_iff.1 q) h
theorem l_via : viaN.toList = [118, 105, 97] := by rw [ByteArray.toList_eq]; rfl
theorem l_host : hostN.toList = [104, 111, 115, 116] := by rw [ByteArray.toList_eq]; rfl
theorem l_cook : cookN.toList = [99, 111, 111, 107, 105, 101] := by rw [ByteArray.toList_eq]; rfl
theorem l_auth : authN.toList = [97, 117, 116, 104, 111, 114, 105, 122, 97, 116, 105, 111, 110] := by rw [ByteArray.toList_eq]; rfl
theorem l_setc : setcN.toList = [115, 101, 116, 45, 99, 111, 111, 107, 105, 101] := by rw [ByteArray.toList_eq]; rfl
theorem rp_keepH (ck : ByteArray) (pre : List Hdr) (hn hv : ByteArray) (hb : Bool) : keepH rpRules ck pre ⟨hn, hv, hb⟩ = if (hn.toList == [118, 105, 97]) = true then none else some ⟨hn, hv, hb || (hn.toList == [115, 101, 116, 45, 99, 111, 111, 107, 105, 101])⟩ := by
  rw [toList_lit l_via, toList_lit l_setc]
  unfold keepH
  by_cases h1 : hn = viaN
  · subst h1; rw [show ruleOf viaN rpRules = some .gone from rp_via]; simp
  · by_cases h2 : hn = setcN
    · subst h2; rw [show ruleOf setcN rpRules = some .sec from rp_setc]; simp [h1]
    · have : ruleOf hn rpRules = none := ruleOf_none (by
        intro p hp
        unfold rpRules at hp
        simp only [List.mem_cons, List.not_mem_nil, or_false] at hp
        rcases hp with rfl | rfl
        · exact fun e => h1 e.symm
        · exact fun e => h2 e.symm)
      rw [this]; simp [h1, h2]
set_option maxHeartbeats 8000000 in
set_option maxRecDepth 100000 in
theorem rrwresp_any (A : Option Addr) (cap : Nat) (l : List Hdr) (name : ByteArray) (w : World) (hl : HdrsAt w A l) (hbk : bulkH l ≤ 2000000) (hcap : l.length ≤ cap) (hnm : name.size ≤ 1048576) :
    Calls Tryz.prog 7 #[.slice A l.length cap, .string name] w (PassPost (rpF l name) w) := by
  have hlen := bulk_len l
  obtain ⟨i0, hi, hz0, hz1, hz2⟩ := info_parts ihdr
  have HR := Lib.hid (rresp_any A cap l w hl (by unfold maxLen; omega) hcap (bulk_fits (by unfold maxLen; omega)))
  have HV : Hid (rpF l name = if (respF l).2 ≠ 0 then ([], (respF l).2) else if 16384 < (viaV l name).size then ([], 2) else ([] ++ keepF rpRules emptyB l ++ [⟨viaN, viaV l name, false⟩], 0)) := Lib.hid rfl
  have HL := Lib.hid hl
  have hbs : w.heap.size ≤ w.heap.size := Nat.le_refl _
  generalize rpF l name = r at *
  generalize respF l = q at *
  obtain ⟨q1, q2⟩ := q
  clear hl
  go_enter Tryz.func7, Tryz.ntmps7
  go_wp2_with fail
  refine HR.out.mono ?_
  rintro e w1 ⟨rfl, hb1⟩
  have HB1 := Lib.hid hb1
  clear hb1
  by_cases h0 : q2 = 0
  · subst h0
    have HV2 : Hid (r = if 16384 < (viaV l name).size then ([], 2) else ([] ++ keepF rpRules emptyB l ++ [⟨viaN, viaV l name, false⟩], 0)) := Lib.hid (by rw [HV.out, if_neg (by simp)])
    clear HV
    go_wp2_with fail
    go_loopw [8, 9] (fun v8 i wr => ∃ (k : Nat) (v : Value) (ks : List Hdr), v = v8 ∧ k ≤ l.length ∧ i = .int .i64 k ∧ Hid (OwnsH w.heap.size wr v ks) ∧ Hid (keepF rpRules emptyB l = ks ++ keepG rpRules emptyB (l.take k) (l.drop k)) ∧ ks.length ≤ k ∧ Hid (Below w.heap.size w wr)) (fun _ i _ => l.length - (intOf i).toNat)
    case atStart => exact ⟨0, _, [], rfl, by omega, rfl, Lib.hid (World.ownsRow_nil _ _ _ _), Lib.hid (by rfl), Nat.le_refl _, HB1⟩
    case round =>
      obtain ⟨k, v, ks, rfl, hk, rfl, HO, HK, hks, HB⟩ := hrel
      by_cases hlt : k < l.length
      · obtain ⟨ad, rfl, c0, c1, c2, hblk⟩ := (HL.out.below HB.out).get k hlt
        have HKN := Lib.hid (keep_next HK.out hlt)
        have hsz := HB.out.size
        generalize hh : l[k] = h at *
        obtain ⟨hn, hv, hb⟩ := h
        simp only at c0 c1 c2
        have HKH := Lib.hid (rp_keepH emptyB (l.take k) hn hv hb)
        clear hh
        cases qv : (hn.toList == [118, 105, 97]) with
        | true =>
          go_wp2_with fail
          go_roundw
          case rel => exact ⟨k + 1, _, ks, rfl, by omega, by go_num, Lib.hid (HO.out), Lib.hid (by rw [HKN.out, HKH.out, qv]; simp), by omega, Lib.hid (HB.out)⟩
          case measure => simp [intOf]; omega
        | false =>
          cases hb with
          | true =>
            have HOA : Hid (World.ownsRow ((wr.alloc (.cells #[.string hn, .string hv, .bool true] 35)).alloc (.cells #[.string hn, .string hv, .bool true] 35)) w.heap.size 35 3 v ks.length (hflat ks)) := Lib.hid (World.ownsRow.alloc (ownsRow_belowN HO.out ((Below.refl wr.heap.size wr).alloc (Nat.le_refl _) (.cells #[.string hn, .string hv, .bool true] 35))) _)
            have HNW : Hid (∀ (j : Nat) (u : Value), ((⟨hn, hv, true⟩ : Hdr).cells)[j]? = some u → ((wr.alloc (.cells #[.string hn, .string hv, .bool true] 35)).alloc (.cells #[.string hn, .string hv, .bool true] 35)).cell? ((⟨wr.heap.size + 1, 0, none⟩ : Addr).add j) = some u) := Lib.hid (by have h := hdr_news (wr.alloc (.cells #[.string hn, .string hv, .bool true] 35)) ⟨hn, hv, true⟩ 35; rw [World.size_alloc] at h; exact h)
            have HBA : Hid (Below w.heap.size w ((wr.alloc (.cells #[.string hn, .string hv, .bool true] 35)).alloc (.cells #[.string hn, .string hv, .bool true] 35))) := Lib.hid (below_al (below_then HB.out ((Below.refl wr.heap.size wr).alloc (Nat.le_refl _) (.cells #[.string hn, .string hv, .bool true] 35))) _)
            go_wp2_with (at_builtin; refine wpList_append_own _ rfl _ _ 22 rfl w.heap.size 35 i0 (.agg #[.string emptyB, .string emptyB, .bool false]) 3 40 Tryz.underlying22 hi hz0 hz1 hz2 rfl (by decide) v _ _ rfl HOA.out ⟨wr.heap.size + 1, 0, none⟩ 1 1 (⟨hn, hv, true⟩ : Hdr).cells rfl rfl HNW.out (cells_one _) (by unfold maxLen; omega) (by omega) (by have := HBA.out.size; exact Nat.le_trans hsz (by simp; omega)) ?_; intro v9 w9 ho9 hg9 _; have HO9 := Lib.hid ho9; have HG9 := Lib.hid hg9; clear ho9 hg9)
            go_roundw
            case rel => exact ⟨k + 1, _, _, rfl, by omega, by go_num, Lib.hid (ownH_snoc HO9.out), Lib.hid (by rw [HKN.out, HKH.out, qv]; rfl), by simp; omega, Lib.hid (Below.grown HBA.out HG9.out HBA.out.size (fun q e => Nat.le_trans hbs (World.ownsRow.lt HOA.out q e).1))⟩
            case measure => simp [intOf]; omega
          | false =>
            cases qs : (hn.toList == [115, 101, 116, 45, 99, 111, 111, 107, 105, 101]) with
            | true =>
              have HOA : Hid (World.ownsRow ((wr.alloc (.cells #[.string hn, .string hv, .bool true] 35)).alloc (.cells #[.string hn, .string hv, .bool true] 35)) w.heap.size 35 3 v ks.length (hflat ks)) := Lib.hid (World.ownsRow.alloc (ownsRow_belowN HO.out ((Below.refl wr.heap.size wr).alloc (Nat.le_refl _) (.cells #[.string hn, .string hv, .bool true] 35))) _)
              have HNW : Hid (∀ (j : Nat) (u : Value), ((⟨hn, hv, true⟩ : Hdr).cells)[j]? = some u → ((wr.alloc (.cells #[.string hn, .string hv, .bool true] 35)).alloc (.cells #[.string hn, .string hv, .bool true] 35)).cell? ((⟨wr.heap.size + 1, 0, none⟩ : Addr).add j) = some u) := Lib.hid (by have h := hdr_news (wr.alloc (.cells #[.string hn, .string hv, .bool true] 35)) ⟨hn, hv, true⟩ 35; rw [World.size_alloc] at h; exact h)
              have HBA : Hid (Below w.heap.size w ((wr.alloc (.cells #[.string hn, .string hv, .bool true] 35)).alloc (.cells #[.string hn, .string hv, .bool true] 35))) := Lib.hid (below_al (below_then HB.out ((Below.refl wr.heap.size wr).alloc (Nat.le_refl _) (.cells #[.string hn, .string hv, .bool true] 35))) _)
              go_wp2_with (at_builtin; refine wpList_append_own _ rfl _ _ 22 rfl w.heap.size 35 i0 (.agg #[.string emptyB, .string emptyB, .bool false]) 3 40 Tryz.underlying22 hi hz0 hz1 hz2 rfl (by decide) v _ _ rfl HOA.out ⟨wr.heap.size + 1, 0, none⟩ 1 1 (⟨hn, hv, true⟩ : Hdr).cells rfl rfl HNW.out (cells_one _) (by unfold maxLen; omega) (by omega) (by have := HBA.out.size; exact Nat.le_trans hsz (by simp; omega)) ?_; intro v9 w9 ho9 hg9 _; have HO9 := Lib.hid ho9; have HG9 := Lib.hid hg9; clear ho9 hg9)
              go_roundw
              case rel => exact ⟨k + 1, _, _, rfl, by omega, by go_num, Lib.hid (ownH_snoc HO9.out), Lib.hid (by rw [HKN.out, HKH.out, qv, qs]; rfl), by simp; omega, Lib.hid (Below.grown HBA.out HG9.out HBA.out.size (fun q e => Nat.le_trans hbs (World.ownsRow.lt HOA.out q e).1))⟩
              case measure => simp [intOf]; omega
            | false =>
              have HOA : Hid (World.ownsRow ((wr.alloc (.cells #[.string hn, .string hv, .bool false] 35)).alloc (.cells #[.string hn, .string hv, .bool false] 35)) w.heap.size 35 3 v ks.length (hflat ks)) := Lib.hid (World.ownsRow.alloc (ownsRow_belowN HO.out ((Below.refl wr.heap.size wr).alloc (Nat.le_refl _) (.cells #[.string hn, .string hv, .bool false] 35))) _)
              have HNW : Hid (∀ (j : Nat) (u : Value), ((⟨hn, hv, false⟩ : Hdr).cells)[j]? = some u → ((wr.alloc (.cells #[.string hn, .string hv, .bool false] 35)).alloc (.cells #[.string hn, .string hv, .bool false] 35)).cell? ((⟨wr.heap.size + 1, 0, none⟩ : Addr).add j) = some u) := Lib.hid (by have h := hdr_news (wr.alloc (.cells #[.string hn, .string hv, .bool false] 35)) ⟨hn, hv, false⟩ 35; rw [World.size_alloc] at h; exact h)
              have HBA : Hid (Below w.heap.size w ((wr.alloc (.cells #[.string hn, .string hv, .bool false] 35)).alloc (.cells #[.string hn, .string hv, .bool false] 35))) := Lib.hid (below_al (below_then HB.out ((Below.refl wr.heap.size wr).alloc (Nat.le_refl _) (.cells #[.string hn, .string hv, .bool false] 35))) _)
              go_wp2_with (at_builtin; refine wpList_append_own _ rfl _ _ 22 rfl w.heap.size 35 i0 (.agg #[.string emptyB, .string emptyB, .bool false]) 3 40 Tryz.underlying22 hi hz0 hz1 hz2 rfl (by decide) v _ _ rfl HOA.out ⟨wr.heap.size + 1, 0, none⟩ 1 1 (⟨hn, hv, false⟩ : Hdr).cells rfl rfl HNW.out (cells_one _) (by unfold maxLen; omega) (by omega) (by have := HBA.out.size; exact Nat.le_trans hsz (by simp; omega)) ?_; intro v9 w9 ho9 hg9 _; have HO9 := Lib.hid ho9; have HG9 := Lib.hid hg9; clear ho9 hg9)
              go_roundw
              case rel => exact ⟨k + 1, _, _, rfl, by omega, by go_num, Lib.hid (ownH_snoc HO9.out), Lib.hid (by rw [HKN.out, HKH.out, qv, qs]; rfl), by simp; omega, Lib.hid (Below.grown HBA.out HG9.out HBA.out.size (fun q e => Nat.le_trans hbs (World.ownsRow.lt HOA.out q e).1))⟩
              case measure => simp [intOf]; omega
      · obtain rfl : k = l.length := by omega
        have HVIA := Lib.hid (rvia_any A cap l name wr (HL.out.below HB.out) hbk hnm)
        have HVL : Hid (viaR l name = if 16384 < (viaV l name).size then (⟨emptyB, emptyB, false⟩, 2) else (⟨viaN, viaV l name, false⟩, 0)) := Lib.hid rfl
        generalize hvr : viaR l name = vr at *
        generalize viaV l name = V at *
        have HKE : Hid (keepF rpRules emptyB l = ks) := Lib.hid (keep_end HK.out hlt)
        have hks2 := hks
        have hsz := HB.out.size
        by_cases hlong : 16384 < V.size
        · have hvr2 : vr = (⟨emptyB, emptyB, false⟩, 2) := by rw [HVL.out, if_pos hlong]
          subst hvr2
          have HV3 : Hid (r = ([], 2)) := Lib.hid (by rw [HV2.out, if_pos hlong])
          clear hvr
          go_wp2_with fail
          refine HVIA.out.mono ?_
          rintro e w5 ⟨rfl, hb5⟩
          have HB5 := Lib.hid (below_then HB.out hb5)
          clear hb5
          go_wp2_with fail
          go_ret2
          rw [HV3.out]
          exact ⟨none, 0, rfl, ⟨rfl, fun h => absurd h (Nat.lt_irrefl _)⟩, Nat.le_refl _, below_al HB5.out _⟩
        · have hvr2 : vr = (⟨viaN, V, false⟩, 0) := by rw [HVL.out, if_neg hlong]
          subst hvr2
          have HV3 : Hid (r = (keepF rpRules emptyB l ++ [⟨viaN, V, false⟩], 0)) := Lib.hid (by rw [HV2.out, if_neg hlong]; rfl)
          clear hvr
          go_wp2_with fail
          refine HVIA.out.mono ?_
          rintro e w5 ⟨rfl, hb5⟩
          have HB5 : Hid (Below w.heap.size w (w5.alloc (.cells #[.string viaN, .string V, .bool false] 35))) := Lib.hid (below_al (below_then HB.out hb5) _)
          have HX5 := Lib.hid (BlockIs.new w5 [.string viaN, .string V, .bool false] 35)
          have HOA : Hid (World.ownsRow ((w5.alloc (.cells #[.string viaN, .string V, .bool false] 35)).alloc (.cells #[.string viaN, .string V, .bool false] 35)) w.heap.size 35 3 v ks.length (hflat ks)) := Lib.hid (World.ownsRow.alloc (World.ownsRow.alloc (ownsRow_belowN HO.out hb5) _) _)
          have HNW : Hid (∀ (j : Nat) (u : Value), ((⟨viaN, V, false⟩ : Hdr).cells)[j]? = some u → ((w5.alloc (.cells #[.string viaN, .string V, .bool false] 35)).alloc (.cells #[.string viaN, .string V, .bool false] 35)).cell? ((⟨w5.heap.size + 1, 0, none⟩ : Addr).add j) = some u) := Lib.hid (by have h := hdr_news (w5.alloc (.cells #[.string viaN, .string V, .bool false] 35)) ⟨viaN, V, false⟩ 35; rw [World.size_alloc] at h; exact h)
          have hs5 := hb5.size
          have y0 := HX5.out.cell 0
          have y1 := HX5.out.cell 1
          have y2 := HX5.out.cell 2
          simp only [List.getElem?_cons_zero, List.getElem?_cons_succ] at y0 y1 y2
          clear hb5
          go_wp2_with (at_builtin; refine wpList_append_own _ rfl _ _ 22 rfl w.heap.size 35 i0 (.agg #[.string emptyB, .string emptyB, .bool false]) 3 40 Tryz.underlying22 hi hz0 hz1 hz2 rfl (by decide) v _ _ rfl HOA.out ⟨w5.heap.size + 1, 0, none⟩ 1 1 (⟨viaN, V, false⟩ : Hdr).cells rfl rfl HNW.out (cells_one _) (by unfold maxLen; omega) (by omega) (by simp; omega) ?_; intro v9 w9 ho9 hg9 _; have HO9 := Lib.hid ho9; have HG9 := Lib.hid hg9; clear ho9 hg9)
          go_ret2
          obtain ⟨p9, c9, h9, hh9, hc9⟩ := own_hdrs (ownH_snoc HO9.out)
          rw [HV3.out, HKE.out]
          exact ⟨p9, c9, by rw [← h9]; rfl, hh9, hc9, Below.grown (below_al HB5.out _) HG9.out (by simp; omega) (fun q e => Nat.le_trans hbs (World.ownsRow.lt HOA.out q e).1)⟩
  · have hz : (q2 == 0) = false := by simpa using h0
    have HV2 : Hid (r = ([], q2)) := Lib.hid (by rw [HV.out, if_pos h0])
    go_wp2_with fail
    go_ret2
    rw [HV2.out]
    exact ⟨none, 0, rfl, ⟨rfl, fun h => absurd h (Nat.lt_irrefl _)⟩, Nat.le_refl _, HB1.out⟩
end Go.Proofs.YtfljibjjpgdmhaaGreatDoor
