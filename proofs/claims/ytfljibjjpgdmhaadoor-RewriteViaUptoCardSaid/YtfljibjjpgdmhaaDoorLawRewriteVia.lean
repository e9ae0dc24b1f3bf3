/- The law RewriteVia: one via, with all values. -/
import Derived.Test.YtfljibjjpgdmhaaDoorRwReq
import Derived.Test.YtfljibjjpgdmhaaDoorRwPlain
import Derived.Test.YtfljibjjpgdmhaaDoorRwBulk
import Derived.Test.YtfljibjjpgdmhaaDoorBytes
set_option linter.unusedVariables false
set_option linter.unusedSimpArgs false
set_option linter.unusedSectionVars false
namespace Go.Proofs.YtfljibjjpgdmhaaDoor
open Go.RowKit
def vOf (m : Nat) : ByteArray := ⟨#[49, 32]⟩ ++ ⟨#[UInt8.ofNat (97 + m % 26)]⟩
def viasOf (vs : List Int) : List ByteArray := vs.map (fun v => vOf v.toNat)
def viaHs (vs : List Int) : List Hdr := (viasOf vs).map (fun v => (⟨viaN, v, false⟩ : Hdr))
theorem conv1v (w : World) (x0 : Int) (b0 : UInt8) (h0 : (b0.toNat : Int) = x0) (T : TypeId) :
    (convert 23 9 (.slice (some ⟨w.heap.size, 0, none⟩) 1 1)).run Tryd.prog (w.alloc (.cells #[.int .u8 x0] T)) = .ok (.string ⟨#[b0]⟩) (w.alloc (.cells #[.int .u8 x0] T)) := by
  subst h0
  have hb := BlockIs.new w [.int .u8 b0.toNat] T
  refine run_convert_bytes_back _ 23 9 5 ⟨w.heap.size, 0, none⟩ 1 [b0] Tryd.underlying23 Tryd.underlying5 Tryd.underlying9 ?_
  intro j hj
  match j, hj with
  | 0, _ => exact hb.cell 0
theorem byteV (m : Nat) : ((UInt8.ofNat (97 + m % 26)).toNat : Int) = 97 + (m : Int) % 26 := by
  rw [UInt8.toNat_ofNat']; omega
theorem bulk_vias (vs : List Int) : bulkH (viaHs vs) = 10 * vs.length := by
  unfold viaHs viasOf
  induction vs with
  | nil => rfl
  | cons a t ih =>
    rw [List.map_cons, List.map_cons, bulkH, ih, List.length_cons]
    have h1 : viaN.size = 3 := rfl
    have h2 : (vOf a.toNat).size = 3 := by unfold vOf; rw [ByteArray.size_append]; rfl
    show viaN.size + (vOf a.toNat).size + 4 + _ = _
    rw [h1, h2]; omega
theorem vias_next {vs : List Int} {k : Nat} (hk : k < vs.length) : viaHs (vs.take (k + 1)) = viaHs (vs.take k) ++ [⟨viaN, vOf vs[k].toNat, false⟩] := by
  unfold viaHs viasOf
  rw [List.take_succ_eq_append_getElem hk, List.map_append, List.map_append]; rfl
theorem want_next {vs : List Int} {k : Nat} (hk : k < vs.length) : wantK (viasOf (vs.take (k + 1))) = wantK (viasOf (vs.take k)) ++ vOf vs[k].toNat ++ commaS := by
  unfold viasOf
  rw [List.take_succ_eq_append_getElem hk, List.map_append, List.map_cons, List.map_nil, wantK_snoc]
theorem want_size (vs : List Int) : (wantK (viasOf vs)).size = 5 * vs.length := by
  unfold viasOf
  induction vs with
  | nil => rfl
  | cons a t ih =>
    have h2 : (vOf a.toNat).size = 3 := by unfold vOf; rw [ByteArray.size_append]; rfl
    have h3 : commaS.size = 2 := rfl
    rw [List.map_cons, wantK, ByteArray.size_append, ByteArray.size_append, ih, h2, h3, List.length_cons]; omega
theorem via_of {l : List Hdr} {vs : List Int} (h : (findH viaN l).isSome = false) : viaV (l ++ viaHs vs) ⟨#[112]⟩ = wantK (viasOf vs) ++ ⟨#[50, 32, 112]⟩ := by
  rw [viaV_want, vals_app, vals_none h, List.nil_append, viaHs, vals_vias]
  rfl
theorem eqHdr (w : World) (n v : ByteArray) (b : Bool) : (binOp .eql 25 (.agg #[.string n, .string v, .bool b]) (.agg #[.string n, .string v, .bool b])).run Tryd.prog w = .ok (.bool true) w := by
  have u3 := Tryd.underlying9
  have a3 := Tryd.isAgg9
  have z3 := Tryd.sizeOf9
  have u4 := Tryd.underlying4
  have a4 := Tryd.isAgg4
  have z4 := Tryd.sizeOf4
  have hS : Tryd.prog.underlying 25 = some (.struct (Tryd.prog.fieldsOf 25)) := by kernel_rfl
  have hp : Tryd.prog.stoodInHeld 25 = false := by kernel_rfl
  rw [run_eql_struct, show (10000 : Nat) = 9999 + 1 from rfl, run_equalIn_agg w 9999 25 _ _ hS hp]
  simp only [Program.fieldsOf, Tryd.underlying25]
  go_simp
theorem tab_via {w : World} (hL : laidMetH Tryd.prog Rows.rewriteViaRow.laid w) : Lib.TabIs Tryd.prog w "internal/strconv.uint64pow10" .u64 Lib.pow10Tab :=
  Lib.tabIs_of_head (rest := []) (n := 20) (g := 3) (by kernel_rfl) (by kernel_rfl) (t := 119) (e := 99) (by kernel_rfl) (by kernel_rfl) (by kernel_rfl) (by kernel_rfl) (hL.filter fun x => x.1 == "internal/strconv.uint64pow10")
/-- What the last header is, and that no other is named so. -/
theorem via_list {V : ByteArray} {x : List Hdr} (h : ∃ i, x = i ++ [⟨viaN, V, false⟩] ∧ ∀ y ∈ i, y.name ≠ viaN) : 0 < x.length ∧ (∀ k (hk : k < x.length), (x[k].name.toList == [118, 105, 97]) = decide (k + 1 = x.length)) ∧ ∀ (h : x.length - 1 < x.length), x[x.length - 1] = ⟨viaN, V, false⟩ := by
  obtain ⟨i, rfl, hi⟩ := h
  have ev : viaN.toList = [118, 105, 97] := by rw [ByteArray.toList_eq]; rfl
  refine ⟨by simp, fun k hk => ?_, fun h => by simp⟩
  rw [List.length_append, List.length_singleton] at hk
  rw [← ev]
  rcases Nat.lt_or_ge k i.length with h1 | h1
  · have h2 : (i ++ [(⟨viaN, V, false⟩ : Hdr)])[k]'(by simp; omega) = i[k] := List.getElem_append_left h1
    rw [h2, List.length_append, List.length_singleton, decide_eq_false (by omega)]
    cases q : (i[k].name.toList == viaN.toList) with
    | false => rfl
    | true => exact absurd (bytes_iff.1 q) (hi _ (List.getElem_mem h1))
  · have hk2 : k = i.length := by omega
    subst hk2
    simp
set_option maxHeartbeats 8000000 in
set_option maxRecDepth 100000 in
theorem rewriteVia_walk (A : Option Addr) (cap : Nat) (l : List Hdr) (A2 : Option Addr) (cap2 : Nat) (vs : List Int) (w : World) (hl : HdrsAt w A l) (hbk : bulkH l ≤ 1048576) (hcap : A = none → cap = 0) (hv : BytesAt w A2 vs) (hvm : vs.length * 1 ≤ 140737488351232) (hvw : ∀ y ∈ vs, (Lit.int .u8 y).wf = true) (hL : laidMetH Tryd.prog Rows.rewriteViaRow.laid w) :
    Calls Tryd.prog 3 #[.slice A l.length cap, .slice A2 vs.length cap2] w fun e w' => e = .returned (.bool true) ∧ Below w.heap.size w w' := by
  have hlen := bulk_len l
  have htab := tab_via hL
  have HT : Hid (∀ w', Below w.heap.size w w' → Lib.TabIs Tryd.prog w' "internal/strconv.uint64pow10" .u64 Lib.pow10Tab) := Lib.hid (fun w' hb => ((Lib.tabBelow_of_tabIs htab).on hb).here)
  have HF : Hid (∀ w', Below w.heap.size w w' → Calls Tryd.prog 6 #[.slice A l.length cap, .string viaN] w' fun e w'' => (∃ x, e = .returned (.tuple #[.string x, .bool (findH viaN l).isSome])) ∧ w' = w'') := Lib.hid (fun w' hb => (rfind_any A cap l viaN w' (hl.below hb) (by unfold maxLen; omega)).mono (fun e w'' ⟨he, h⟩ => ⟨⟨_, he⟩, h⟩))
  have HL := Lib.hid hl
  have HVS := Lib.hid hv
  have HVW := Lib.hid hvw
  obtain ⟨i0, hi, hz0, hz1, hz2⟩ := info_parts ihdr
  clear hl hL htab hv hvw
  go_enter Tryd.func3, Tryd.ntmps3
  have HB0 : Hid (Below w.heap.size w (w.alloc (.cells #[] 25))) := Lib.hid (below_al (Below.refl _ _) _)
  have HO0 : Hid (OwnsH w.heap.size (w.alloc (.cells #[] 25)) (.slice (some ⟨w.heap.size, 0, none⟩) 0 0) []) := Lib.hid (World.ownsRow_made w #[] 0 (Nat.le_refl _) (Nat.zero_le _) (by simp))
  go_wp2_with (first | (at_builtin; refine wpList_appendH rfl _ _ rfl w.heap.size (.slice (some ⟨w.heap.size, 0, none⟩) 0 0) [] rfl HO0.out A cap l rfl (HL.out.below HB0.out) hcap (by simp; omega) (by simp) ?_; intro v2 w2 ho2 hg2; have HO2 : Hid (OwnsH w.heap.size w2 v2 l) := Lib.hid ho2; have HB2 : Hid (Below w.heap.size w w2) := Lib.hid (Below.grown HB0.out hg2 (by simp) (fun q e => by cases e; exact Nat.le_refl _)); clear ho2 hg2))
  go_loopw [5, 6, 7] (fun v5 v6 i wr => ∃ (k : Nat) (v : Value), v = v5 ∧ k ≤ vs.length ∧ k ≤ 20 ∧ v6 = .string (wantK (viasOf (vs.take k))) ∧ i = .int .i64 k ∧ Hid (OwnsH w.heap.size wr v (l ++ viaHs (vs.take k))) ∧ Hid (Below w.heap.size w wr)) (fun _ _ i _ => 20 - (intOf i).toNat)
  case atStart => exact ⟨0, _, rfl, by omega, by omega, rfl, rfl, Lib.hid (by rw [List.take_zero, show viaHs [] = [] from rfl, List.append_nil]; exact HO2.out), HB2⟩
  case round =>
    clear HO2 HB2 HO0 HB0
    obtain ⟨k, v, rfl, hk, hk20, rfl, rfl, HO, HB⟩ := hrel
    have hbl : (viaHs (vs.take k)).length ≤ 20 := by unfold viaHs viasOf; simp; omega
    by_cases hlt : k < vs.length
    · by_cases h20 : k < 20
      · obtain ⟨g, o, rfl, b0, glt⟩ := (HVS.out.below HB.out).get k hlt
        have hwf := HVW.out vs[k] (List.getElem_mem hlt)
        have HVN := Lib.hid (vias_next hlt)
        have HWN := Lib.hid (want_next hlt)
        generalize vs[k] = y at *
        have hy : 0 ≤ y ∧ y ≤ 255 := by simp [Lit.wf, IntKind.min, IntKind.max, IntKind.signed, IntKind.bits] at hwf; omega
        obtain ⟨m, rfl⟩ : ∃ m : Nat, y = (m : Int) := ⟨y.toNat, by omega⟩
        have hvo : vOf (m : Int).toNat = ⟨#[49, 32]⟩ ++ ⟨#[UInt8.ofNat (97 + m % 26)]⟩ := rfl
        rw [hvo] at HVN HWN
        have hcv := fun T => conv1v wr (97 + (m : Int) % 26) (UInt8.ofNat (97 + m % 26)) (byteV m) T
        have HXL : Hid ((l ++ viaHs (vs.take k)).length ≤ 300000) := Lib.hid (by rw [List.length_append]; omega)
        have HWKS : Hid ((wantK (viasOf (vs.take k))).size ≤ 2000) := Lib.hid (by have := want_size (vs.take k); rw [List.length_take] at this; omega)
        generalize UInt8.ofNat (97 + m % 26) = D at *
        generalize wantK (viasOf (vs.take k)) = wk at *
        generalize hxs : l ++ viaHs (vs.take k) = xs at *
        have HXS := Lib.hid hxs
        clear hxs hvo
        have hmod : (m : Int) % 26 < 26 := Int.emod_lt_of_pos _ (by decide)
        have hmod0 : 0 ≤ (m : Int) % 26 := Int.emod_nonneg _ (by decide)
        have hsz := HB.out.size
        have HOA : Hid (World.ownsRow ((wr.alloc (.cells #[.int .u8 (97 + (m : Int) % 26)] 5)).alloc (.cells #[.string ⟨#[118, 105, 97]⟩, .string (⟨#[49, 32]⟩ ++ ⟨#[D]⟩), .bool false] 25)) w.heap.size 25 3 v xs.length (hflat xs)) := Lib.hid (World.ownsRow.alloc (World.ownsRow.alloc HO.out _) _)
        have HNW := Lib.hid (hdr_news (wr.alloc (.cells #[.int .u8 (97 + (m : Int) % 26)] 5)) ⟨⟨#[118, 105, 97]⟩, ⟨#[49, 32]⟩ ++ ⟨#[D]⟩, false⟩ 25)
        have HBA : Hid (Below w.heap.size w ((wr.alloc (.cells #[.int .u8 (97 + (m : Int) % 26)] 5)).alloc (.cells #[.string ⟨#[118, 105, 97]⟩, .string (⟨#[49, 32]⟩ ++ ⟨#[D]⟩), .bool false] 25))) := Lib.hid (below_al (below_al HB.out _) _)
        have hwk : wk.size ≤ 2000 := HWKS.out
        go_wp2_with (at_builtin; refine wpList_append_own _ rfl _ _ 22 rfl w.heap.size 25 i0 (.agg #[.string emptyB, .string emptyB, .bool false]) 3 40 Tryd.underlying22 hi hz0 hz1 hz2 rfl (by decide) v _ _ rfl HOA.out ⟨wr.heap.size + 1, 0, none⟩ 1 1 (⟨⟨#[118, 105, 97]⟩, ⟨#[49, 32]⟩ ++ ⟨#[D]⟩, false⟩ : Hdr).cells rfl rfl (by have h := HNW.out; rw [World.size_alloc] at h; exact h) (cells_one _) (by have := HXL.out; unfold maxLen; omega) (by have := HXL.out; omega) (by simp; omega) ?_; intro v9 w9 ho9 hg9 _; have HO9 := Lib.hid ho9; have HG9 := Lib.hid hg9; clear ho9 hg9)
        go_roundw
        case rel =>
          refine ⟨k + 1, _, rfl, by omega, by omega, by rw [HWN.out]; rfl, by go_num, Lib.hid ?_, Lib.hid (Below.grown HBA.out HG9.out (by simp; omega) (fun q e => (World.ownsRow.lt HOA.out q e).1))⟩
          rw [HVN.out, ← List.append_assoc, HXS.out]
          exact ownH_snoc HO9.out
        case measure => simp [intOf]; omega
      · obtain rfl : k = 20 := by omega
        have HWK2 : Hid ((wantK (viasOf (vs.take 20))).size ≤ 2000) := Lib.hid (by have := want_size (vs.take 20); rw [List.length_take] at this; omega)
        generalize hq : l ++ viaHs (vs.take 20) = q at *
        have HQB : Hid (bulkH q ≤ 2000000) := Lib.hid (by rw [← hq, bulk_app, bulk_vias, List.length_take]; omega)
        have HVO : Hid ((findH viaN l).isSome = false → viaV q ⟨#[112]⟩ = wantK (viasOf (vs.take 20)) ++ ⟨#[50, 32, 112]⟩) := Lib.hid (fun h => by rw [← hq]; exact via_of h)
        obtain ⟨p5, c5, rfl, hh5, hc5⟩ := own_hdrs2 HO.out
        have HRQ := Lib.hid (rwreq_any p5 c5 q ⟨#[112]⟩ wr hh5 HQB.out (by decide))
        have HXL := Lib.hid (rqF_len q ⟨#[112]⟩ HQB.out)
        have HONE : Hid ((rqF q ⟨#[112]⟩).2 = 0 → ∃ i, (rqF q ⟨#[112]⟩).1 = i ++ [⟨viaN, viaV q ⟨#[112]⟩, false⟩] ∧ ∀ y ∈ i, y.name ≠ viaN) := Lib.hid (fun h => rq_one_via h)
        generalize viaV q ⟨#[112]⟩ = V at *
        generalize rqF q ⟨#[112]⟩ = r at *
        generalize wantK (viasOf (vs.take 20)) = wk at *
        obtain ⟨x, ex⟩ := r
        clear hh5 HO hq
        go_wp2_with fail
        refine HRQ.out.mono ?_
        rintro e w6 ⟨p6, c6, rfl, hh6, hc6, hb6⟩
        have HH6 := Lib.hid hh6
        have HB6 := Lib.hid (below_then HB.out hb6)
        clear hh6 hb6
        have hxl := HXL.out
        go_wp2_with fail
        refine (HF.out _ HB6.out).mono ?_
        rintro e w7 ⟨⟨x7, rfl⟩, rfl⟩
        generalize hhad : (findH viaN l).isSome = had at *
        have HHAD := Lib.hid hhad
        clear hhad
        by_cases hex : ex = 0
        · subst hex
          cases had with
          | true =>
            go_wp2_with fail
            refine (awake14_any _ (HT.out _ HB6.out)).mono ?_
            rintro e w8 ⟨rfl, hb8⟩
            have HB8 := Lib.hid (below_then HB6.out hb8)
            clear hb8
            go_wp2_with fail
            go_ret
            exact ⟨rfl, HB8.out⟩
          | false =>
            obtain ⟨hpos, hnm, hlast⟩ := via_list (HONE.out rfl)
            have HNM := Lib.hid hnm
            have HLS := Lib.hid (hlast (by omega))
            have hVE := HVO.out rfl
            clear hnm hlast
            go_wp2_with fail
            go_loopw [13, 14] (fun v13 i wr2 => ∃ j n : Nat, j ≤ x.length ∧ v13 = .int .i64 n ∧ i = .int .i64 j ∧ n = (if j = x.length then 1 else 0) ∧ Hid (Below w6.heap.size w6 wr2)) (fun _ i _ => x.length - (intOf i).toNat)
            case atStart => exact ⟨0, 0, by omega, rfl, rfl, by rw [if_neg (by omega)], Lib.hid (Below.refl _ _)⟩
            case round =>
              obtain ⟨j, n, hj, rfl, rfl, hn, HW6⟩ := hrel
              by_cases hjl : j < x.length
              · obtain ⟨ad, rfl, d0, d1, d2, dblk⟩ := (HH6.out.below HW6.out).get j hjl
                have hnj := HNM.out j hjl
                have hn0 : n = 0 := by rw [hn, if_neg (by omega)]
                subst hn0
                clear hn
                generalize x[j] = h at *
                obtain ⟨hn', hv', hb'⟩ := h
                simp only at d0 d1 d2 hnj
                by_cases hlst : j + 1 = x.length
                · have hnt : (hn'.toList == [118, 105, 97]) = true := by rw [hnj]; simpa using hlst
                  have HLT := Lib.hid hlst
                  clear hlst hnj
                  go_wp2_with fail
                  go_roundw
                  case rel => have hlst := HLT.out; exact ⟨j + 1, 1, by omega, by go_num, by go_num, by rw [if_pos hlst], HW6⟩
                  case measure => simp [intOf]; omega
                · have hnf : (hn'.toList == [118, 105, 97]) = false := by rw [hnj]; simpa using hlst
                  have HLT := Lib.hid hlst
                  clear hlst hnj
                  go_wp2_with fail
                  go_roundw
                  case rel => have hlst := HLT.out; exact ⟨j + 1, 0, by omega, by go_num, by go_num, by rw [if_neg hlst], HW6⟩
                  case measure => simp [intOf]; omega
              · obtain rfl : j = x.length := by omega
                have hn1 : n = 1 := by rw [hn, if_pos rfl]
                subst hn1
                clear hn
                have HBr : Hid (Below w.heap.size w wr) := Lib.hid (below_then HB6.out HW6.out)
                obtain ⟨ad, rfl, d0, d1, d2, dblk⟩ := (HH6.out.below HW6.out).get (x.length - 1) (by omega)
                rw [HLS.out] at d0 d1 d2
                simp only at d0 d1 d2
                rw [hVE] at d1
                rw [show viaN = ⟨#[118, 105, 97]⟩ from rfl] at d0
                have hwks := HWK2.out
                have hne := fun W => eqHdr W ⟨#[118, 105, 97]⟩ (wk ++ ⟨#[50, 32, 112]⟩) false
                have hgd : ∀ (op : BinOp) (a b : Operand) (W : World), (eqGuard op 25 a b (.agg #[.string ⟨#[118, 105, 97]⟩, .string (wk ++ ⟨#[50, 32, 112]⟩), .bool false]) (.agg #[.string ⟨#[118, 105, 97]⟩, .string (wk ++ ⟨#[50, 32, 112]⟩), .bool false])).run Tryd.prog W = .ok () W := fun op a b W => run_eqGuard_agg W op 25 a b _ _ (by kernel_rfl)
                go_wp2_with fail
                refine (awake14_any _ (HT.out _ HBr.out)).mono ?_
                rintro e w9 ⟨rfl, hb9⟩
                have HB9 := Lib.hid (below_then HBr.out hb9)
                clear hb9
                go_wp2_with fail
                go_ret
                exact ⟨rfl, HB9.out⟩
        · have hez : (ex == 0) = false := by simpa using hex
          go_wp2_with fail
          refine (awake14_any _ (HT.out _ HB6.out)).mono ?_
          rintro e w8 ⟨rfl, hb8⟩
          have HB8 := Lib.hid (below_then HB6.out hb8)
          clear hb8
          go_wp2_with fail
          go_ret
          exact ⟨rfl, HB8.out⟩
    · obtain rfl : k = vs.length := by omega
      have HWK2 : Hid ((wantK (viasOf (vs.take vs.length))).size ≤ 2000) := Lib.hid (by have := want_size (vs.take vs.length); rw [List.length_take] at this; omega)
      generalize hq : l ++ viaHs (vs.take vs.length) = q at *
      have HQB : Hid (bulkH q ≤ 2000000) := Lib.hid (by rw [← hq, bulk_app, bulk_vias, List.length_take]; omega)
      have HVO : Hid ((findH viaN l).isSome = false → viaV q ⟨#[112]⟩ = wantK (viasOf (vs.take vs.length)) ++ ⟨#[50, 32, 112]⟩) := Lib.hid (fun h => by rw [← hq]; exact via_of h)
      obtain ⟨p5, c5, rfl, hh5, hc5⟩ := own_hdrs2 HO.out
      have HRQ := Lib.hid (rwreq_any p5 c5 q ⟨#[112]⟩ wr hh5 HQB.out (by decide))
      have HXL := Lib.hid (rqF_len q ⟨#[112]⟩ HQB.out)
      have HONE : Hid ((rqF q ⟨#[112]⟩).2 = 0 → ∃ i, (rqF q ⟨#[112]⟩).1 = i ++ [⟨viaN, viaV q ⟨#[112]⟩, false⟩] ∧ ∀ y ∈ i, y.name ≠ viaN) := Lib.hid (fun h => rq_one_via h)
      generalize viaV q ⟨#[112]⟩ = V at *
      generalize rqF q ⟨#[112]⟩ = r at *
      generalize wantK (viasOf (vs.take vs.length)) = wk at *
      obtain ⟨x, ex⟩ := r
      clear hh5 HO hq
      go_wp2_with fail
      refine HRQ.out.mono ?_
      rintro e w6 ⟨p6, c6, rfl, hh6, hc6, hb6⟩
      have HH6 := Lib.hid hh6
      have HB6 := Lib.hid (below_then HB.out hb6)
      clear hh6 hb6
      have hxl := HXL.out
      go_wp2_with fail
      refine (HF.out _ HB6.out).mono ?_
      rintro e w7 ⟨⟨x7, rfl⟩, rfl⟩
      generalize hhad : (findH viaN l).isSome = had at *
      have HHAD := Lib.hid hhad
      clear hhad
      by_cases hex : ex = 0
      · subst hex
        cases had with
        | true =>
          go_wp2_with fail
          refine (awake14_any _ (HT.out _ HB6.out)).mono ?_
          rintro e w8 ⟨rfl, hb8⟩
          have HB8 := Lib.hid (below_then HB6.out hb8)
          clear hb8
          go_wp2_with fail
          go_ret
          exact ⟨rfl, HB8.out⟩
        | false =>
          obtain ⟨hpos, hnm, hlast⟩ := via_list (HONE.out rfl)
          have HNM := Lib.hid hnm
          have HLS := Lib.hid (hlast (by omega))
          have hVE := HVO.out rfl
          clear hnm hlast
          go_wp2_with fail
          go_loopw [13, 14] (fun v13 i wr2 => ∃ j n : Nat, j ≤ x.length ∧ v13 = .int .i64 n ∧ i = .int .i64 j ∧ n = (if j = x.length then 1 else 0) ∧ Hid (Below w6.heap.size w6 wr2)) (fun _ i _ => x.length - (intOf i).toNat)
          case atStart => exact ⟨0, 0, by omega, rfl, rfl, by rw [if_neg (by omega)], Lib.hid (Below.refl _ _)⟩
          case round =>
            obtain ⟨j, n, hj, rfl, rfl, hn, HW6⟩ := hrel
            by_cases hjl : j < x.length
            · obtain ⟨ad, rfl, d0, d1, d2, dblk⟩ := (HH6.out.below HW6.out).get j hjl
              have hnj := HNM.out j hjl
              have hn0 : n = 0 := by rw [hn, if_neg (by omega)]
              subst hn0
              clear hn
              generalize x[j] = h at *
              obtain ⟨hn', hv', hb'⟩ := h
              simp only at d0 d1 d2 hnj
              by_cases hlst : j + 1 = x.length
              · have hnt : (hn'.toList == [118, 105, 97]) = true := by rw [hnj]; simpa using hlst
                have HLT := Lib.hid hlst
                clear hlst hnj
                go_wp2_with fail
                go_roundw
                case rel => have hlst := HLT.out; exact ⟨j + 1, 1, by omega, by go_num, by go_num, by rw [if_pos hlst], HW6⟩
                case measure => simp [intOf]; omega
              · have hnf : (hn'.toList == [118, 105, 97]) = false := by rw [hnj]; simpa using hlst
                have HLT := Lib.hid hlst
                clear hlst hnj
                go_wp2_with fail
                go_roundw
                case rel => have hlst := HLT.out; exact ⟨j + 1, 0, by omega, by go_num, by go_num, by rw [if_neg hlst], HW6⟩
                case measure => simp [intOf]; omega
            · obtain rfl : j = x.length := by omega
              have hn1 : n = 1 := by rw [hn, if_pos rfl]
              subst hn1
              clear hn
              have HBr : Hid (Below w.heap.size w wr) := Lib.hid (below_then HB6.out HW6.out)
              obtain ⟨ad, rfl, d0, d1, d2, dblk⟩ := (HH6.out.below HW6.out).get (x.length - 1) (by omega)
              rw [HLS.out] at d0 d1 d2
              simp only at d0 d1 d2
              rw [hVE] at d1
              rw [show viaN = ⟨#[118, 105, 97]⟩ from rfl] at d0
              have hwks := HWK2.out
              have hne := fun W => eqHdr W ⟨#[118, 105, 97]⟩ (wk ++ ⟨#[50, 32, 112]⟩) false
              have hgd : ∀ (op : BinOp) (a b : Operand) (W : World), (eqGuard op 25 a b (.agg #[.string ⟨#[118, 105, 97]⟩, .string (wk ++ ⟨#[50, 32, 112]⟩), .bool false]) (.agg #[.string ⟨#[118, 105, 97]⟩, .string (wk ++ ⟨#[50, 32, 112]⟩), .bool false])).run Tryd.prog W = .ok () W := fun op a b W => run_eqGuard_agg W op 25 a b _ _ (by kernel_rfl)
              go_wp2_with fail
              refine (awake14_any _ (HT.out _ HBr.out)).mono ?_
              rintro e w9 ⟨rfl, hb9⟩
              have HB9 := Lib.hid (below_then HBr.out hb9)
              clear hb9
              go_wp2_with fail
              go_ret
              exact ⟨rfl, HB9.out⟩
      · have hez : (ex == 0) = false := by simpa using hex
        go_wp2_with fail
        refine (awake14_any _ (HT.out _ HB6.out)).mono ?_
        rintro e w8 ⟨rfl, hb8⟩
        have HB8 := Lib.hid (below_then HB6.out hb8)
        clear hb8
        go_wp2_with fail
        go_ret
        exact ⟨rfl, HB8.out⟩
end Go.Proofs.YtfljibjjpgdmhaaDoor
