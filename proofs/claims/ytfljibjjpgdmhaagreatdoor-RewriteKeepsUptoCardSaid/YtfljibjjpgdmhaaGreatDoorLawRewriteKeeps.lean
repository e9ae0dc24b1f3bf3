/- The law RewriteKeeps: a request stays a request. -/
import Derived.Test.YtfljibjjpgdmhaaGreatDoorRwPlainL
import Derived.Test.YtfljibjjpgdmhaaGreatDoorRwPlain
import Derived.Test.YtfljibjjpgdmhaaGreatDoorRwBulk
import Derived.Test.YtfljibjjpgdmhaaGreatDoorBytes
set_option linter.unusedVariables false
set_option linter.unusedSimpArgs false
set_option linter.unusedSectionVars false
namespace Go.Proofs.YtfljibjjpgdmhaaGreatDoor
open Go.RowKit
def dgOf (m : Nat) : UInt8 := UInt8.ofNat (97 + m % 26)
def nmOf (vs : List Int) : ByteArray := ⟨(112 :: vs.map (fun v => dgOf v.toNat)).toArray⟩
theorem nm_next {vs : List Int} {k : Nat} (hk : k < vs.length) : nmOf (vs.take (k + 1)) = nmOf (vs.take k) ++ ⟨#[dgOf vs[k].toNat]⟩ := by
  apply ba_ext
  unfold nmOf
  rw [List.take_succ_eq_append_getElem hk, List.map_append]
  simp [ByteArray.data_append]
theorem nm_size (vs : List Int) : (nmOf vs).size = vs.length + 1 := by
  rw [← size_dl]; unfold nmOf; simp
theorem dg_fin : ∀ n : Nat, n < 26 → badB (UInt8.ofNat (97 + n)) = false ∧ blankB (UInt8.ofNat (97 + n)) = false := by decide
theorem dg_ok (m : Nat) : badB (dgOf m) = false ∧ blankB (dgOf m) = false := dg_fin (m % 26) (Nat.mod_lt _ (by decide))
theorem nm_value (vs : List Int) : valueB (nmOf vs).data.toList = true ∧ (nmOf vs).data.toList ≠ [] := by
  have e : (nmOf vs).data.toList = 112 :: vs.map (fun v => dgOf v.toNat) := by unfold nmOf; simp
  rw [e]
  have hb : ∀ b ∈ (112 : UInt8) :: vs.map (fun v => dgOf v.toNat), badB b = false ∧ blankB b = false := by
    intro b hb
    rcases List.mem_cons.1 hb with rfl | hb
    · decide
    · obtain ⟨v, _, rfl⟩ := List.mem_map.1 hb
      exact dg_ok _
  refine ⟨value_iff.2 ⟨?_, ?_, ?_⟩, by simp⟩
  · rw [List.any_eq_false]
    intro b h; rw [(hb b h).1]; simp
  · intro a ha; exact (hb a (List.mem_of_mem_head? ha)).2
  · intro a ha; exact (hb a (List.mem_of_getLast? ha)).2
theorem keep_fits {R : List (ByteArray × Rule)} {ck : ByteArray} {l : List Hdr} (hbk : bulkH l ≤ 2000000) (hck : ck.size ≤ 2000000) : ∀ y ∈ keepF R ck l, y.fits := by
  intro y hy
  obtain ⟨pre, h, hh, e⟩ := mem_keepG hy
  have hm := bulk_mem h hh
  have hn := keepH_name e
  unfold keepH at e
  unfold Hdr.fits maxLen
  split at e
  · cases e; omega
  · cases e
  · cases e; simp only; omega
  · split at e
    · cases e
    · cases e; simp only; omega
theorem pass_fits {first l : List Hdr} {R : List (ByteArray × Rule)} {ck name : ByteArray} (hbk : bulkH l ≤ 2000000) (hck : ck.size ≤ 2000000) (hn : name.size ≤ 1000) (hf : ∀ y ∈ first, y ∈ l) : ∀ y ∈ (passF first l R ck name).1, y.fits := by
  intro y hy
  unfold passF at hy
  split at hy
  · simp at hy
  · simp only [List.mem_append, List.mem_singleton] at hy
    rcases hy with (hy | hy) | rfl
    · have := bulk_mem y (hf y hy)
      unfold Hdr.fits maxLen; omega
    · exact keep_fits hbk hck y hy
    · have := viaV_size l name
      have h3 : viaN.size = 3 := rfl
      unfold Hdr.fits maxLen
      simp only; omega
theorem rqF_fits {l : List Hdr} {name : ByteArray} (hbk : bulkH l ≤ 2000000) (hn : name.size ≤ 1000) : ∀ y ∈ (rqF l name).1, y.fits := by
  intro y hy
  unfold rqF at hy
  split at hy
  · simp at hy
  · split at hy
    · simp at hy
    · exact pass_fits hbk (Nat.le_trans (joinV_le cookN false l semiS (by decide)) hbk) hn (fun z hz => (mem_firstL.1 hz).1) y hy
theorem rpF_fits {l : List Hdr} {name : ByteArray} (hbk : bulkH l ≤ 2000000) (hn : name.size ≤ 1000) : ∀ y ∈ (rpF l name).1, y.fits := by
  intro y hy
  unfold rpF at hy
  split at hy
  · simp at hy
  · exact pass_fits hbk (by decide) hn (fun z hz => by cases hz) y hy
theorem last_via {x i : List Hdr} {V : ByteArray} (h : x = i ++ [⟨viaN, V, false⟩]) : 0 < x.length ∧ ∀ (h : x.length - 1 < x.length), x[x.length - 1] = ⟨viaN, V, false⟩ := by
  subst h
  exact ⟨by simp, fun h => by simp⟩
theorem conv1k (w : World) (x0 : Int) (b0 : UInt8) (h0 : (b0.toNat : Int) = x0) (T : TypeId) :
    (convert 31 9 (.slice (some ⟨w.heap.size, 0, none⟩) 1 1)).run Tryz.prog (w.alloc (.cells #[.int .u8 x0] T)) = .ok (.string ⟨#[b0]⟩) (w.alloc (.cells #[.int .u8 x0] T)) := by
  subst h0
  have hb := BlockIs.new w [.int .u8 b0.toNat] T
  refine run_convert_bytes_back _ 31 9 5 ⟨w.heap.size, 0, none⟩ 1 [b0] Tryz.underlying31 Tryz.underlying5 Tryz.underlying9 ?_
  intro j hj
  match j, hj with
  | 0, _ => exact hb.cell 0
theorem byteK (m : Nat) : ((dgOf m).toNat : Int) = 97 + (m : Int) % 26 := by
  unfold dgOf; rw [UInt8.toNat_ofNat']; omega
theorem tab_keeps {w : World} (hL : laidMetH Tryz.prog Rows.rewriteKeepsRow.laid w) : Lib.TabIs Tryz.prog w "internal/strconv.uint64pow10" .u64 Lib.pow10Tab :=
  Lib.tabIs_of_head (rest := []) (n := 20) (g := 2) (by kernel_rfl) (by kernel_rfl) (t := 137) (e := 113) (by kernel_rfl) (by kernel_rfl) (by kernel_rfl) (by kernel_rfl) (hL.filter fun x => x.1 == "internal/strconv.uint64pow10")
set_option maxHeartbeats 8000000 in
set_option maxRecDepth 100000 in
theorem rewriteKeeps_walk (A : Option Addr) (cap : Nat) (l : List Hdr) (A2 : Option Addr) (cap2 : Nat) (vs : List Int) (w : World) (hl : HdrsAt w A l) (hbk : bulkH l ≤ 1048576) (hcap : l.length ≤ cap) (hv : BytesAt w A2 vs) (hvm : vs.length * 1 ≤ 140737488351232) (hvw : ∀ y ∈ vs, (Lit.int .u8 y).wf = true) (hvc : vs.length ≤ cap2) (hL : laidMetH Tryz.prog Rows.rewriteKeepsRow.laid w) :
    Calls Tryz.prog 5 #[.slice A l.length cap, .slice A2 vs.length cap2] w fun e w' => e = .returned (.bool true) ∧ Below w.heap.size w w' := by
  have hlen := bulk_len l
  have htab := tab_keeps hL
  have HT : Hid (∀ w', Below w.heap.size w w' → Lib.TabIs Tryz.prog w' "internal/strconv.uint64pow10" .u64 Lib.pow10Tab) := Lib.hid (fun w' hb => ((Lib.tabBelow_of_tabIs htab).on hb).here)
  have HL := Lib.hid hl
  have HVS := Lib.hid hv
  have HVW := Lib.hid hvw
  have HPL : Hid (∀ w', Below w.heap.size w w' → Calls Tryz.prog 13 #[.slice A l.length cap] w' fun e w'' => ∃ p c, e = .returned (.slice p (plainL l).length c) ∧ HdrsAt w'' p (plainL l) ∧ Below w'.heap.size w' w'') := Lib.hid (fun w' hb => plain14_any A cap l w' (hl.below hb) (by omega))
  have HRS : Hid (∀ w', Below w.heap.size w w' → Calls Tryz.prog 14 #[.slice A l.length cap] w' (RespPost (respF l) w')) := Lib.hid (fun w' hb => rresp_any A cap l w' (hl.below hb) (by unfold maxLen; omega) hcap (bulk_fits (by unfold maxLen; omega)))
  have hpll := plainL_len l
  clear hl hL htab hv hvw
  go_enter Tryz.func5, Tryz.ntmps5
  go_wp2_with fail
  go_loopw [5, 6] (fun v5 i wr => ∃ k : Nat, k ≤ vs.length ∧ k ≤ 20 ∧ v5 = .string (nmOf (vs.take k)) ∧ i = .int .i64 k ∧ Hid (Below w.heap.size w wr)) (fun _ i _ => 20 - (intOf i).toNat)
  case atStart => exact ⟨0, by omega, by omega, rfl, rfl, Lib.hid (Below.refl _ _)⟩
  case round =>
    obtain ⟨k, hk, hk20, rfl, rfl, HB⟩ := hrel
    by_cases hlt : k < vs.length
    · by_cases h20 : k < 20
      · obtain ⟨g, oo, rfl, b0, glt⟩ := (HVS.out.below HB.out).get k hlt
        have hwf := HVW.out vs[k] (List.getElem_mem hlt)
        have HNN := Lib.hid (nm_next hlt)
        have hns : (nmOf (vs.take k)).size ≤ 21 := by rw [nm_size, List.length_take]; omega
        generalize vs[k] = y at *
        have hy : 0 ≤ y ∧ y ≤ 255 := by simp [Lit.wf, IntKind.min, IntKind.max, IntKind.signed, IntKind.bits] at hwf; omega
        obtain ⟨m, rfl⟩ : ∃ m : Nat, y = (m : Int) := ⟨y.toNat, by omega⟩
        rw [show (m : Int).toNat = m from rfl] at HNN
        have hcv := fun T => conv1k wr (97 + (m : Int) % 26) (dgOf m) (byteK m) T
        generalize dgOf m = D at *
        generalize nmOf (vs.take k) = nm at *
        have hmod : (m : Int) % 26 < 26 := Int.emod_lt_of_pos _ (by decide)
        have hmod0 : 0 ≤ (m : Int) % 26 := Int.emod_nonneg _ (by decide)
        go_wp2_with fail
        go_roundw
        case rel => exact ⟨k + 1, by omega, by omega, by rw [HNN.out], by go_num, Lib.hid (below_al HB.out _)⟩
        case measure => simp [intOf]; omega
      · obtain rfl : k = 20 := by omega
        have hnsz : (nmOf (vs.take 20)).size ≤ 21 := by rw [nm_size, List.length_take]; omega
        have HNV := Lib.hid (nm_value (vs.take 20))
        generalize nmOf (vs.take 20) = nm at *
        have HQ := Lib.hid (rwreq_any A cap l nm wr (HL.out.below HB.out) (by omega) (by omega))
        have HP : Hid (∀ w', Below w.heap.size w w' → Calls Tryz.prog 6 #[.slice A l.length cap, .string nm] w' (PassPost (rpF l nm) w')) := Lib.hid (fun w' hb => rwresp_any A cap l nm w' (HL.out.below hb) (by omega) (by omega))
        have HQ1 : Hid ((rqF l nm).2 = 0 → reqF (rqF l nm).1 = 0) := Lib.hid (fun h => rq_stays HNV.out.1 HNV.out.2 h)
        have HQ2 : Hid ((rqF l nm).2 = 0 → plainL (rqF l nm).1 = plainL l ∧ ∃ i, (rqF l nm).1 = i ++ [⟨viaN, viaV l nm, false⟩]) := Lib.hid (fun h => rq_plain h)
        have HQ3 := Lib.hid (rqF_fits (l := l) (name := nm) (by omega) (by omega))
        have HQ4 := Lib.hid (rqF_len l nm (by omega))
        have HP1 : Hid ((rpF l nm).2 = 0 → (respF l).2 = 0 ∧ respF (rpF l nm).1 = respF l) := Lib.hid (fun h => rp_stays HNV.out.1 HNV.out.2 h)
        have HP2 : Hid ((rpF l nm).2 = 0 → plainL (rpF l nm).1 = plainL l ∧ ∃ i, (rpF l nm).1 = i ++ [⟨viaN, viaV l nm, false⟩]) := Lib.hid (fun h => rp_plain h)
        have HP3 := Lib.hid (rpF_fits (l := l) (name := nm) (by omega) (by omega))
        have HP4 := Lib.hid (rpF_len l nm (by omega))
        generalize rqF l nm = rq at *
        generalize rpF l nm = rp at *
        generalize viaV l nm = V at *
        obtain ⟨x, ex⟩ := rq
        obtain ⟨y, ey⟩ := rp
        go_wp2_with fail
        refine HQ.out.mono ?_
        rintro e w3 ⟨p3, c3, rfl, hh3, hc3, hb3⟩
        have HX3 := Lib.hid hh3
        have HB3 := Lib.hid (below_then HB.out hb3)
        have hxl := HQ4.out
        have hyl := HP4.out
        clear hh3 hb3
        by_cases hex : ex = 0
        · subst hex
          obtain ⟨hpe, i6, hx6⟩ := HQ2.out rfl
          obtain ⟨hpos, hlast⟩ := last_via hx6
          have HPE : Hid (plainL x = plainL l) := Lib.hid hpe
          have HLS := Lib.hid (hlast (by omega))
          have hq0 : reqF x = 0 := HQ1.out rfl
          have HXQ := Lib.hid (rreq_any p3 c3 x w3 HX3.out (by unfold maxLen; omega) hc3 HQ3.out)
          rw [hq0] at HXQ
          clear hpe hx6 hlast hq0
          go_wp2_with fail
          refine HXQ.out.mono ?_
          rintro e w4 ⟨rfl, hb4⟩
          have HX4 := Lib.hid (HX3.out.below hb4)
          have HB4 := Lib.hid (below_then HB3.out hb4)
          clear hb4
          go_wp2_with fail
          refine (plain14_any p3 c3 x w4 HX4.out (by omega)).mono ?_
          rw [HPE.out]
          rintro e w5 ⟨p5, c5, rfl, hh5, hb5⟩
          have HX5 := Lib.hid (HX4.out.below hb5)
          have HP5 := Lib.hid hh5
          have HB5 := Lib.hid (below_then HB4.out hb5)
          clear hh5 hb5
          go_wp2_with fail
          refine (HPL.out _ HB5.out).mono ?_
          rintro e w6 ⟨p6, c6, rfl, hh6, hb6⟩
          have HX6 := Lib.hid (HX5.out.below hb6)
          have HP6 := Lib.hid (HP5.out.below hb6)
          have HPP6 := Lib.hid hh6
          have HB6 := Lib.hid (below_then HB5.out hb6)
          clear hh6 hb6
          go_wp2_with fail
          refine (headers_same HP6.out HPP6.out (by omega)).mono ?_
          rintro e w7 ⟨rfl, hb7⟩
          have HX7 := Lib.hid (HX6.out.below hb7)
          have HB7 := Lib.hid (below_then HB6.out hb7)
          clear hb7
          obtain ⟨ad, rfl, d0, d1, d2, dblk⟩ := HX7.out.get (x.length - 1) (by omega)
          rw [HLS.out] at d0
          simp only at d0
          rw [show viaN = ⟨#[118, 105, 97]⟩ from rfl] at d0
          go_wp2_with fail
          refine (HRS.out _ HB7.out).mono ?_
          generalize hq : respF l = q at *
          obtain ⟨q1, q2⟩ := q
          rintro e w8 ⟨rfl, hb8⟩
          have HB8 := Lib.hid (below_then HB7.out hb8)
          clear hb8 hq
          go_wp2_with fail
          refine (HP.out _ HB8.out).mono ?_
          rintro e w9 ⟨p9, c9, rfl, hh9, hc9, hb9⟩
          have HY9 := Lib.hid hh9
          have HB9 := Lib.hid (below_then HB8.out hb9)
          clear hh9 hb9
          by_cases hey : ey = 0
          · subst hey
            obtain ⟨hpe, i6, hx6⟩ := HP2.out rfl
            obtain ⟨hpos, hlast⟩ := last_via hx6
            have HPE : Hid (plainL y = plainL l) := Lib.hid hpe
            have HLS := Lib.hid (hlast (by omega))
            obtain ⟨hq0, hrs⟩ := HP1.out rfl
            try simp only at hq0 hrs
            subst hq0
            have HYQ := Lib.hid (rresp_any p9 c9 y w9 HY9.out (by unfold maxLen; omega) hc9 HP3.out)
            rw [hrs] at HYQ
            clear hpe hx6 hlast hrs
            go_wp2_with fail
            refine HYQ.out.mono ?_
            rintro e w10 ⟨rfl, hb10⟩
            have HY10 := Lib.hid (HY9.out.below hb10)
            have HB10 := Lib.hid (below_then HB9.out hb10)
            clear hb10
            go_wp2_with fail
            refine (plain14_any p9 c9 y w10 HY10.out (by omega)).mono ?_
            rw [HPE.out]
            rintro e w11 ⟨p11, c11, rfl, hh11, hb11⟩
            have HY11 := Lib.hid (HY10.out.below hb11)
            have HP11 := Lib.hid hh11
            have HB11 := Lib.hid (below_then HB10.out hb11)
            clear hh11 hb11
            go_wp2_with fail
            refine (HPL.out _ HB11.out).mono ?_
            rintro e w12 ⟨p12, c12, rfl, hh12, hb12⟩
            have HY12 := Lib.hid (HY11.out.below hb12)
            have HP12 := Lib.hid (HP11.out.below hb12)
            have HPP12 := Lib.hid hh12
            have HB12 := Lib.hid (below_then HB11.out hb12)
            clear hh12 hb12
            go_wp2_with fail
            refine (headers_same HP12.out HPP12.out (by omega)).mono ?_
            rintro e w13 ⟨rfl, hb13⟩
            have HY13 := Lib.hid (HY12.out.below hb13)
            have HB13 := Lib.hid (below_then HB12.out hb13)
            clear hb13
            obtain ⟨bd, rfl, e0, e1, e2, eblk⟩ := HY13.out.get (y.length - 1) (by omega)
            rw [HLS.out] at e0
            simp only at e0
            rw [show viaN = ⟨#[118, 105, 97]⟩ from rfl] at e0
            go_wp2_with fail
            refine (awake14_any _ (HT.out _ HB13.out)).mono ?_
            rintro e w14 ⟨rfl, hb14⟩
            have HB14 := Lib.hid (below_then HB13.out hb14)
            clear hb14
            go_wp2_with fail
            go_ret
            exact ⟨rfl, HB14.out⟩
          · have hez2 : (ey == 0) = false := by simpa using hey
            go_wp2_with fail
            refine (awake14_any _ (HT.out _ HB9.out)).mono ?_
            rintro e w14 ⟨rfl, hb14⟩
            have HB14 := Lib.hid (below_then HB9.out hb14)
            clear hb14
            go_wp2_with fail
            go_ret
            exact ⟨rfl, HB14.out⟩
        · have hez : (ex == 0) = false := by simpa using hex
          go_wp2_with fail
          refine (HRS.out _ HB3.out).mono ?_
          generalize hq : respF l = q at *
          obtain ⟨q1, q2⟩ := q
          rintro e w8 ⟨rfl, hb8⟩
          have HB8 := Lib.hid (below_then HB3.out hb8)
          clear hb8 hq
          go_wp2_with fail
          refine (HP.out _ HB8.out).mono ?_
          rintro e w9 ⟨p9, c9, rfl, hh9, hc9, hb9⟩
          have HY9 := Lib.hid hh9
          have HB9 := Lib.hid (below_then HB8.out hb9)
          clear hh9 hb9
          by_cases hey : ey = 0
          · subst hey
            obtain ⟨hpe, i6, hx6⟩ := HP2.out rfl
            obtain ⟨hpos, hlast⟩ := last_via hx6
            have HPE : Hid (plainL y = plainL l) := Lib.hid hpe
            have HLS := Lib.hid (hlast (by omega))
            obtain ⟨hq0, hrs⟩ := HP1.out rfl
            try simp only at hq0 hrs
            subst hq0
            have HYQ := Lib.hid (rresp_any p9 c9 y w9 HY9.out (by unfold maxLen; omega) hc9 HP3.out)
            rw [hrs] at HYQ
            clear hpe hx6 hlast hrs
            go_wp2_with fail
            refine HYQ.out.mono ?_
            rintro e w10 ⟨rfl, hb10⟩
            have HY10 := Lib.hid (HY9.out.below hb10)
            have HB10 := Lib.hid (below_then HB9.out hb10)
            clear hb10
            go_wp2_with fail
            refine (plain14_any p9 c9 y w10 HY10.out (by omega)).mono ?_
            rw [HPE.out]
            rintro e w11 ⟨p11, c11, rfl, hh11, hb11⟩
            have HY11 := Lib.hid (HY10.out.below hb11)
            have HP11 := Lib.hid hh11
            have HB11 := Lib.hid (below_then HB10.out hb11)
            clear hh11 hb11
            go_wp2_with fail
            refine (HPL.out _ HB11.out).mono ?_
            rintro e w12 ⟨p12, c12, rfl, hh12, hb12⟩
            have HY12 := Lib.hid (HY11.out.below hb12)
            have HP12 := Lib.hid (HP11.out.below hb12)
            have HPP12 := Lib.hid hh12
            have HB12 := Lib.hid (below_then HB11.out hb12)
            clear hh12 hb12
            go_wp2_with fail
            refine (headers_same HP12.out HPP12.out (by omega)).mono ?_
            rintro e w13 ⟨rfl, hb13⟩
            have HY13 := Lib.hid (HY12.out.below hb13)
            have HB13 := Lib.hid (below_then HB12.out hb13)
            clear hb13
            obtain ⟨bd, rfl, e0, e1, e2, eblk⟩ := HY13.out.get (y.length - 1) (by omega)
            rw [HLS.out] at e0
            simp only at e0
            rw [show viaN = ⟨#[118, 105, 97]⟩ from rfl] at e0
            go_wp2_with fail
            refine (awake14_any _ (HT.out _ HB13.out)).mono ?_
            rintro e w14 ⟨rfl, hb14⟩
            have HB14 := Lib.hid (below_then HB13.out hb14)
            clear hb14
            go_wp2_with fail
            go_ret
            exact ⟨rfl, HB14.out⟩
          · have hez2 : (ey == 0) = false := by simpa using hey
            go_wp2_with fail
            refine (awake14_any _ (HT.out _ HB9.out)).mono ?_
            rintro e w14 ⟨rfl, hb14⟩
            have HB14 := Lib.hid (below_then HB9.out hb14)
            clear hb14
            go_wp2_with fail
            go_ret
            exact ⟨rfl, HB14.out⟩
    · obtain rfl : k = vs.length := by omega
      have hnsz : (nmOf (vs.take vs.length)).size ≤ 21 := by rw [nm_size, List.length_take]; omega
      have HNV := Lib.hid (nm_value (vs.take vs.length))
      generalize nmOf (vs.take vs.length) = nm at *
      have HQ := Lib.hid (rwreq_any A cap l nm wr (HL.out.below HB.out) (by omega) (by omega))
      have HP : Hid (∀ w', Below w.heap.size w w' → Calls Tryz.prog 6 #[.slice A l.length cap, .string nm] w' (PassPost (rpF l nm) w')) := Lib.hid (fun w' hb => rwresp_any A cap l nm w' (HL.out.below hb) (by omega) (by omega))
      have HQ1 : Hid ((rqF l nm).2 = 0 → reqF (rqF l nm).1 = 0) := Lib.hid (fun h => rq_stays HNV.out.1 HNV.out.2 h)
      have HQ2 : Hid ((rqF l nm).2 = 0 → plainL (rqF l nm).1 = plainL l ∧ ∃ i, (rqF l nm).1 = i ++ [⟨viaN, viaV l nm, false⟩]) := Lib.hid (fun h => rq_plain h)
      have HQ3 := Lib.hid (rqF_fits (l := l) (name := nm) (by omega) (by omega))
      have HQ4 := Lib.hid (rqF_len l nm (by omega))
      have HP1 : Hid ((rpF l nm).2 = 0 → (respF l).2 = 0 ∧ respF (rpF l nm).1 = respF l) := Lib.hid (fun h => rp_stays HNV.out.1 HNV.out.2 h)
      have HP2 : Hid ((rpF l nm).2 = 0 → plainL (rpF l nm).1 = plainL l ∧ ∃ i, (rpF l nm).1 = i ++ [⟨viaN, viaV l nm, false⟩]) := Lib.hid (fun h => rp_plain h)
      have HP3 := Lib.hid (rpF_fits (l := l) (name := nm) (by omega) (by omega))
      have HP4 := Lib.hid (rpF_len l nm (by omega))
      generalize rqF l nm = rq at *
      generalize rpF l nm = rp at *
      generalize viaV l nm = V at *
      obtain ⟨x, ex⟩ := rq
      obtain ⟨y, ey⟩ := rp
      go_wp2_with fail
      refine HQ.out.mono ?_
      rintro e w3 ⟨p3, c3, rfl, hh3, hc3, hb3⟩
      have HX3 := Lib.hid hh3
      have HB3 := Lib.hid (below_then HB.out hb3)
      have hxl := HQ4.out
      have hyl := HP4.out
      clear hh3 hb3
      by_cases hex : ex = 0
      · subst hex
        obtain ⟨hpe, i6, hx6⟩ := HQ2.out rfl
        obtain ⟨hpos, hlast⟩ := last_via hx6
        have HPE : Hid (plainL x = plainL l) := Lib.hid hpe
        have HLS := Lib.hid (hlast (by omega))
        have hq0 : reqF x = 0 := HQ1.out rfl
        have HXQ := Lib.hid (rreq_any p3 c3 x w3 HX3.out (by unfold maxLen; omega) hc3 HQ3.out)
        rw [hq0] at HXQ
        clear hpe hx6 hlast hq0
        go_wp2_with fail
        refine HXQ.out.mono ?_
        rintro e w4 ⟨rfl, hb4⟩
        have HX4 := Lib.hid (HX3.out.below hb4)
        have HB4 := Lib.hid (below_then HB3.out hb4)
        clear hb4
        go_wp2_with fail
        refine (plain14_any p3 c3 x w4 HX4.out (by omega)).mono ?_
        rw [HPE.out]
        rintro e w5 ⟨p5, c5, rfl, hh5, hb5⟩
        have HX5 := Lib.hid (HX4.out.below hb5)
        have HP5 := Lib.hid hh5
        have HB5 := Lib.hid (below_then HB4.out hb5)
        clear hh5 hb5
        go_wp2_with fail
        refine (HPL.out _ HB5.out).mono ?_
        rintro e w6 ⟨p6, c6, rfl, hh6, hb6⟩
        have HX6 := Lib.hid (HX5.out.below hb6)
        have HP6 := Lib.hid (HP5.out.below hb6)
        have HPP6 := Lib.hid hh6
        have HB6 := Lib.hid (below_then HB5.out hb6)
        clear hh6 hb6
        go_wp2_with fail
        refine (headers_same HP6.out HPP6.out (by omega)).mono ?_
        rintro e w7 ⟨rfl, hb7⟩
        have HX7 := Lib.hid (HX6.out.below hb7)
        have HB7 := Lib.hid (below_then HB6.out hb7)
        clear hb7
        obtain ⟨ad, rfl, d0, d1, d2, dblk⟩ := HX7.out.get (x.length - 1) (by omega)
        rw [HLS.out] at d0
        simp only at d0
        rw [show viaN = ⟨#[118, 105, 97]⟩ from rfl] at d0
        go_wp2_with fail
        refine (HRS.out _ HB7.out).mono ?_
        generalize hq : respF l = q at *
        obtain ⟨q1, q2⟩ := q
        rintro e w8 ⟨rfl, hb8⟩
        have HB8 := Lib.hid (below_then HB7.out hb8)
        clear hb8 hq
        go_wp2_with fail
        refine (HP.out _ HB8.out).mono ?_
        rintro e w9 ⟨p9, c9, rfl, hh9, hc9, hb9⟩
        have HY9 := Lib.hid hh9
        have HB9 := Lib.hid (below_then HB8.out hb9)
        clear hh9 hb9
        by_cases hey : ey = 0
        · subst hey
          obtain ⟨hpe, i6, hx6⟩ := HP2.out rfl
          obtain ⟨hpos, hlast⟩ := last_via hx6
          have HPE : Hid (plainL y = plainL l) := Lib.hid hpe
          have HLS := Lib.hid (hlast (by omega))
          obtain ⟨hq0, hrs⟩ := HP1.out rfl
          try simp only at hq0 hrs
          subst hq0
          have HYQ := Lib.hid (rresp_any p9 c9 y w9 HY9.out (by unfold maxLen; omega) hc9 HP3.out)
          rw [hrs] at HYQ
          clear hpe hx6 hlast hrs
          go_wp2_with fail
          refine HYQ.out.mono ?_
          rintro e w10 ⟨rfl, hb10⟩
          have HY10 := Lib.hid (HY9.out.below hb10)
          have HB10 := Lib.hid (below_then HB9.out hb10)
          clear hb10
          go_wp2_with fail
          refine (plain14_any p9 c9 y w10 HY10.out (by omega)).mono ?_
          rw [HPE.out]
          rintro e w11 ⟨p11, c11, rfl, hh11, hb11⟩
          have HY11 := Lib.hid (HY10.out.below hb11)
          have HP11 := Lib.hid hh11
          have HB11 := Lib.hid (below_then HB10.out hb11)
          clear hh11 hb11
          go_wp2_with fail
          refine (HPL.out _ HB11.out).mono ?_
          rintro e w12 ⟨p12, c12, rfl, hh12, hb12⟩
          have HY12 := Lib.hid (HY11.out.below hb12)
          have HP12 := Lib.hid (HP11.out.below hb12)
          have HPP12 := Lib.hid hh12
          have HB12 := Lib.hid (below_then HB11.out hb12)
          clear hh12 hb12
          go_wp2_with fail
          refine (headers_same HP12.out HPP12.out (by omega)).mono ?_
          rintro e w13 ⟨rfl, hb13⟩
          have HY13 := Lib.hid (HY12.out.below hb13)
          have HB13 := Lib.hid (below_then HB12.out hb13)
          clear hb13
          obtain ⟨bd, rfl, e0, e1, e2, eblk⟩ := HY13.out.get (y.length - 1) (by omega)
          rw [HLS.out] at e0
          simp only at e0
          rw [show viaN = ⟨#[118, 105, 97]⟩ from rfl] at e0
          go_wp2_with fail
          refine (awake14_any _ (HT.out _ HB13.out)).mono ?_
          rintro e w14 ⟨rfl, hb14⟩
          have HB14 := Lib.hid (below_then HB13.out hb14)
          clear hb14
          go_wp2_with fail
          go_ret
          exact ⟨rfl, HB14.out⟩
        · have hez2 : (ey == 0) = false := by simpa using hey
          go_wp2_with fail
          refine (awake14_any _ (HT.out _ HB9.out)).mono ?_
          rintro e w14 ⟨rfl, hb14⟩
          have HB14 := Lib.hid (below_then HB9.out hb14)
          clear hb14
          go_wp2_with fail
          go_ret
          exact ⟨rfl, HB14.out⟩
      · have hez : (ex == 0) = false := by simpa using hex
        go_wp2_with fail
        refine (HRS.out _ HB3.out).mono ?_
        generalize hq : respF l = q at *
        obtain ⟨q1, q2⟩ := q
        rintro e w8 ⟨rfl, hb8⟩
        have HB8 := Lib.hid (below_then HB3.out hb8)
        clear hb8 hq
        go_wp2_with fail
        refine (HP.out _ HB8.out).mono ?_
        rintro e w9 ⟨p9, c9, rfl, hh9, hc9, hb9⟩
        have HY9 := Lib.hid hh9
        have HB9 := Lib.hid (below_then HB8.out hb9)
        clear hh9 hb9
        by_cases hey : ey = 0
        · subst hey
          obtain ⟨hpe, i6, hx6⟩ := HP2.out rfl
          obtain ⟨hpos, hlast⟩ := last_via hx6
          have HPE : Hid (plainL y = plainL l) := Lib.hid hpe
          have HLS := Lib.hid (hlast (by omega))
          obtain ⟨hq0, hrs⟩ := HP1.out rfl
          try simp only at hq0 hrs
          subst hq0
          have HYQ := Lib.hid (rresp_any p9 c9 y w9 HY9.out (by unfold maxLen; omega) hc9 HP3.out)
          rw [hrs] at HYQ
          clear hpe hx6 hlast hrs
          go_wp2_with fail
          refine HYQ.out.mono ?_
          rintro e w10 ⟨rfl, hb10⟩
          have HY10 := Lib.hid (HY9.out.below hb10)
          have HB10 := Lib.hid (below_then HB9.out hb10)
          clear hb10
          go_wp2_with fail
          refine (plain14_any p9 c9 y w10 HY10.out (by omega)).mono ?_
          rw [HPE.out]
          rintro e w11 ⟨p11, c11, rfl, hh11, hb11⟩
          have HY11 := Lib.hid (HY10.out.below hb11)
          have HP11 := Lib.hid hh11
          have HB11 := Lib.hid (below_then HB10.out hb11)
          clear hh11 hb11
          go_wp2_with fail
          refine (HPL.out _ HB11.out).mono ?_
          rintro e w12 ⟨p12, c12, rfl, hh12, hb12⟩
          have HY12 := Lib.hid (HY11.out.below hb12)
          have HP12 := Lib.hid (HP11.out.below hb12)
          have HPP12 := Lib.hid hh12
          have HB12 := Lib.hid (below_then HB11.out hb12)
          clear hh12 hb12
          go_wp2_with fail
          refine (headers_same HP12.out HPP12.out (by omega)).mono ?_
          rintro e w13 ⟨rfl, hb13⟩
          have HY13 := Lib.hid (HY12.out.below hb13)
          have HB13 := Lib.hid (below_then HB12.out hb13)
          clear hb13
          obtain ⟨bd, rfl, e0, e1, e2, eblk⟩ := HY13.out.get (y.length - 1) (by omega)
          rw [HLS.out] at e0
          simp only at e0
          rw [show viaN = ⟨#[118, 105, 97]⟩ from rfl] at e0
          go_wp2_with fail
          refine (awake14_any _ (HT.out _ HB13.out)).mono ?_
          rintro e w14 ⟨rfl, hb14⟩
          have HB14 := Lib.hid (below_then HB13.out hb14)
          clear hb14
          go_wp2_with fail
          go_ret
          exact ⟨rfl, HB14.out⟩
        · have hez2 : (ey == 0) = false := by simpa using hey
          go_wp2_with fail
          refine (awake14_any _ (HT.out _ HB9.out)).mono ?_
          rintro e w14 ⟨rfl, hb14⟩
          have HB14 := Lib.hid (below_then HB9.out hb14)
          clear hb14
          go_wp2_with fail
          go_ret
          exact ⟨rfl, HB14.out⟩
end Go.Proofs.YtfljibjjpgdmhaaGreatDoor
