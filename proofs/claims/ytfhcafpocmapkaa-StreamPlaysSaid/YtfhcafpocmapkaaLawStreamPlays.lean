/- The law StreamPlays: streams under any script, of either end. -/
import Derived.Test.YtfhcafpocmapkaaStrPlays
import Derived.Deep.DeepCutAuto
set_option linter.unusedVariables false
set_option linter.unusedSimpArgs false
set_option linter.unusedSectionVars false
namespace Go.Proofs.Ytfhcafpocmapkaa
open Go.RowKit
/-- What holds at the head of round k. -/
structure PlaysAt (w0 : World) (b m xb : Nat) (server : Bool) (most : Nat) (k : Nat) (s : PS) (r : RS) (w : World) : Prop where
  pi : PI server most k s
  ri : RI most r
  sr : SR s r
  tw : STwo w0 b m xb [] s r w
theorem PlaysAt.nums {w0 w : World} {b m xb : Nat} {server : Bool} {most : Nat} {k : Nat} {s : PS} {r : RS} (h : PlaysAt w0 b m xb server most k s r w) (hm : most ≤ 1024) (hk : k < 140737488355328) :
    s.es.length ≤ 1048576 ∧ s.next < 140737488355328 ∧ 0 ≤ s.last1 ∧ s.last1 ≤ 2147483647 ∧ r.es.length ≤ 4398046511104 ∧ 0 ≤ r.ours ∧ r.ours ≤ 2147483647 := by
  have h1 := h.pi.len
  have h2 := h.pi.nx
  have h3 := h.pi.l1
  have h4 := h.ri.len
  have h5 := h.ri.ou
  refine ⟨by omega, by omega, h3.1, h3.2.1, by omega, h5.1, h5.2.1⟩
theorem PlaysAt.step {w0 w w' : World} {b m xb : Nat} {server : Bool} {most : Nat} {k : Nat} {s : PS} {r : RS} (h : PlaysAt w0 b m xb server most k s r w) (a i n : Int) (ht : STwo w0 b m xb [] (s.play a i n) (r.play a i n) w') : PlaysAt w0 b m xb server most (k + 1) (s.play a i n) (r.play a i n) w' :=
  ⟨h.pi.play a i n, h.ri.play a i n, (h.sr.play h.pi a i n).1, ht⟩
theorem PlaysAt.to {w0 w w' : World} {b m xb : Nat} {server : Bool} {most : Nat} {k : Nat} {s : PS} {r : RS} (h : PlaysAt w0 b m xb server most k s r w) (ht : STwo w0 b m xb [] s r w') : PlaysAt w0 b m xb server most k s r w' := ⟨h.pi, h.ri, h.sr, ht⟩
set_option maxHeartbeats 4000000 in
set_option maxRecDepth 100000 in
theorem streamPlays_walk (server : Bool) (most : Int) (A : Option Addr) (cap : Nat) (l : List Op3) (w : World) (_hmo : (Lit.int .i64 most).wf = true) (hl : OpsAt w A l) (hm : l.length * 24 ≤ 140737488351232) (_hw : ∀ y ∈ l, y.fits) :
    Calls Try.prog 4 #[.bool server, .int .i64 most, .slice A l.length cap] w fun e w' => e = .returned (.bool true) ∧ Below w.heap.size w w' := by
  have HL := Lib.hid hl
  have hlen : l.length ≤ 17592186043904 := by omega
  clear hl hm _hw _hmo
  by_cases hmo : 0 ≤ most ∧ most ≤ 1024
  · obtain ⟨hmo0, hmo1⟩ := hmo
    obtain ⟨most, rfl⟩ := Int.eq_ofNat_of_zero_le hmo0
    have HMO : Hid (most ≤ 1024) := Lib.hid (by omega)
    go_enter Try.func4, Try.ntmps4
    go_wp2_with fail
    refine (new_any server most _ (by omega) (by omega)).mono ?_
    rintro e w1 ⟨b, m, rfl, hs, hb, hm, hbl⟩
    have HS := Lib.hid hs
    have HB := Lib.hid hbl
    clear hs hbl
    go_wp2_with fail
    refine (rnewS_any server most _ (by omega) (by omega)).mono ?_
    rintro e w2 ⟨xb, rfl, hr, hxb, hb2⟩
    have HT := Lib.hid (st_new HS.out hb hm HB.out hr hxb rfl rfl hb2)
    clear hr hxb hb2 hb hm
    go_wp2_with fail
    go_loopw [11] (fun v11 wr => ∃ (k : Nat) (s : PS) (r : RS), v11 = .int .i64 k ∧ k ≤ l.length ∧ Hid (PlaysAt w b m xb server most k s r wr)) (fun v11 _ => l.length - (intOf v11).toNat)
    case atStart => exact ⟨0, _, _, rfl, by omega, Lib.hid ⟨pi_new server most, ri_new server most, sr_new server most, HT.out⟩⟩
    case round =>
      obtain ⟨k, s, r, rfl, hk, HE⟩ := hrel
      by_cases hlt : k < l.length
      · obtain ⟨g, o, rfl, c0, c1, c2, hg⟩ := (HL.out.below HE.out.tw.below0).get k hlt
        have HGET := Lib.hid (fun (wz : World) (h : Below w.heap.size w wz) => (HL.out.below h).get k hlt)
        have HN := Lib.hid (HE.out.nums HMO.out (by omega))
        generalize l[k].what = ow at *
        generalize l[k].id = oi at *
        generalize l[k].n = on at *
        have HPL := Lib.hid (fun (wz : World) (h : STwo w b m xb [] s r wz) => play_any h (by have := HN.out.1; omega) HN.out.2.1 HN.out.2.2.1 HN.out.2.2.2.1 HN.out.2.2.2.2.1 HN.out.2.2.2.2.2.1 HN.out.2.2.2.2.2.2 ow oi on)
        have HST := Lib.hid (fun w' ht => HE.out.step ow oi on (w' := w') ht)
        have HAG := Lib.hid (HE.out.sr.play HE.out.pi ow oi on).2
        go_wp2_with fail
        refine (HPL.out _ HE.out.tw).mono ?_
        rintro e w3 ⟨v, rfl, hx, hv⟩
        obtain rfl := hv HAG.out
        have HE3 := Lib.hid (HST.out _ hx)
        clear hx hv HPL HST HAG HN
        have HN3 := Lib.hid (HE3.out.nums HMO.out (by omega)).1
        generalize s.play ow oi on = s3 at *
        generalize r.play ow oi on = r3 at *
        obtain ⟨g2, o2, ead, d0, d1, d2, hg2⟩ := HGET.out _ HE3.out.tw.below0
        obtain ⟨rfl, rfl⟩ : g = g2 ∧ o = o2 := by injection ead with h; injection h; exact ⟨by assumption, by assumption⟩
        clear ead d0 d2 c0 c1 c2 hg
        have HSM := Lib.hid (fun (id : Int) (wz : World) (h : STwo w b m xb [] s3 r3 wz) => same_any h HE3.out.sr HN3.out id)
        go_wp2_with fail
        refine (HSM.out _ _ HE3.out.tw).mono ?_
        rintro e w4 ⟨rfl, hx⟩
        have HX4 := Lib.hid hx
        clear hx
        go_wp2_with fail
        refine (HSM.out _ _ HX4.out).mono ?_
        rintro e w5 ⟨rfl, hx⟩
        have HX5 := Lib.hid hx
        clear hx
        go_wp2_with fail
        refine (HSM.out _ _ HX5.out).mono ?_
        rintro e w6 ⟨rfl, hx⟩
        have HX6 := Lib.hid hx
        clear hx
        go_wp2_with fail
        go_roundw
        case rel => exact ⟨k + 1, s3, r3, by go_num, by omega, Lib.hid (HE3.out.to HX6.out)⟩
        case measure => simp [intOf]; omega
      · obtain rfl : k = l.length := by omega
        go_wp2_with fail
        refine (awake_any _).mono ?_
        rintro e w4 ⟨rfl, hb⟩
        have HB4 := Lib.hid (below_then HE.out.tw.below0 hb)
        clear hb
        go_wp2_with fail
        go_ret
        exact ⟨rfl, HB4.out⟩
  · have hno : most < 0 ∨ 1024 < most := by omega
    go_enter Try.func4, Try.ntmps4
    go_wp2_with fail
    refine (new_no server most _ hno).mono ?_
    rintro e w1 ⟨rfl, rfl⟩
    go_wp2_with fail
    refine (rnewS_no server most _ hno).mono ?_
    rintro e w1 ⟨rfl, rfl⟩
    go_wp2_with fail
    go_loopw [11] (fun v11 wr => v11 = .int .i64 0 ∧ wr = w) (fun _ _ => 0)
    case atStart => exact ⟨rfl, rfl⟩
    case round =>
      obtain ⟨rfl, rfl⟩ := hrel
      go_wp2_with fail
      refine (awake_any _).mono ?_
      rintro e w4 ⟨rfl, hb⟩
      have HB4 := Lib.hid hb
      clear hb
      go_wp2_with fail
      go_ret
      exact ⟨rfl, HB4.out⟩
end Go.Proofs.Ytfhcafpocmapkaa
