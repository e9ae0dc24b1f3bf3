/- The law StreamEnds: closed is closed; numbers rise; no more are open than may be. -/
import Derived.Test.YtfhcafpocmapkaaStrEnds
import Derived.Deep.DeepCutAuto
set_option linter.unusedVariables false
set_option linter.unusedSimpArgs false
set_option linter.unusedSectionVars false
namespace Go.Proofs.Ytfhcafpocmapkaa
open Go.RowKit
/-- What holds at the head of round k. -/
structure EndsAt (w0 : World) (b m xb : Nat) (server : Bool) (most : Nat) (id : Int) (c : Bool) (k : Nat) (s : PS) (r : RS) (w : World) : Prop where
  pi : PI server most k s
  nf : NoFour s
  ri : RI most r
  cl : c = true → Closed s id
  tw : STwo w0 b m xb [] s r w
theorem EndsAt.nums {w0 w : World} {b m xb : Nat} {server : Bool} {most : Nat} {id : Int} {c : Bool} {k : Nat} {s : PS} {r : RS} (h : EndsAt w0 b m xb server most id c k s r w) (hm : most ≤ 255) (hk : k < 140737488355328) :
    s.es.length ≤ 140737488355328 ∧ s.next < 140737488355328 ∧ 0 ≤ s.last1 ∧ s.last1 ≤ 2147483647 ∧ r.es.length ≤ 4398046511104 ∧ 0 ≤ r.ours ∧ r.ours ≤ 2147483647 ∧ s.count 0 ≤ most ∧ s.count 1 ≤ 1024 ∧ 0 ≤ s.last0 := by
  have h1 := h.pi.len
  have h2 := h.pi.nx
  have h3 := h.pi.l1
  have h4 := h.ri.len
  have h5 := h.ri.ou
  have h6 := h.pi.c0
  have h7 := h.pi.c1
  have h8 := h.pi.l0
  refine ⟨by omega, by omega, h3.1, h3.2.1, by omega, h5.1, h5.2.1, h6, h7, h8⟩
theorem EndsAt.is {w0 w : World} {b m xb : Nat} {server : Bool} {most : Nat} {id : Int} {c : Bool} {k : Nat} {s : PS} {r : RS} (h : EndsAt w0 b m xb server most id c k s r w) (hc : c = true) : s.state id = 4 := (closed_iff h.nf id).2 (h.cl hc)
theorem EndsAt.next {w0 w w' : World} {b m xb : Nat} {server : Bool} {most : Nat} {id : Int} {c : Bool} {k : Nat} {s : PS} {r : RS} (h : EndsAt w0 b m xb server most id c k s r w) (ht : STwo w0 b m xb [] s r w') : EndsAt w0 b m xb server most id (s.state id == 4) k s r w' :=
  ⟨h.pi, h.nf, h.ri, fun e => (closed_iff h.nf id).1 (by simpa using e), ht⟩
theorem EndsAt.play {w0 w w' : World} {b m xb : Nat} {server : Bool} {most : Nat} {id : Int} {c : Bool} {k : Nat} {s : PS} {r : RS} (h : EndsAt w0 b m xb server most id c k s r w) (a i n : Int) (ht : STwo w0 b m xb [] (s.play a i n) (r.play a i n) w') : EndsAt w0 b m xb server most id c (k + 1) (s.play a i n) (r.play a i n) w' :=
  ⟨h.pi.play a i n, h.nf.play a i n, h.ri.play a i n, fun e => (h.cl e).play h.pi a i n, ht⟩
theorem EndsAt.own {w0 w w' : World} {b m xb : Nat} {server : Bool} {most : Nat} {id : Int} {c : Bool} {k : Nat} {s : PS} {r : RS} (h : EndsAt w0 b m xb server most id c k s r w) (ht : STwo w0 b m xb [] s.own.1 r w') : EndsAt w0 b m xb server most id c (k + 1) s.own.1 r w' := by
  have e : s.play 1 0 0 = s.own.1 := by simp [PS.play]
  rw [← e] at ht ⊢
  exact ⟨h.pi.play 1 0 0, h.nf.play 1 0 0, h.ri, fun e => (h.cl e).play h.pi 1 0 0, ht⟩
theorem odd_case {server : Bool} {k : Int} (h : oursB server k = true) (h0 : 0 ≤ k) : (k % 2 == 0) = server := by
  unfold oursB at h
  rw [Int.tmod_eq_emod_of_nonneg h0] at h
  simpa using h
theorem play_only (s : PS) (r : RS) {w0 w : World} {b m xb : Nat} {bx : List (Nat × List Value)} (h : STwo w0 b m xb bx s r w) : STwo w0 b m xb [] s r w := by
  obtain ⟨lv, gv, h1, h2, h3, h4, h5, _⟩ := h
  exact ⟨lv, gv, h1, h2, h3, h4, h5, fun q hq => by cases hq⟩
theorem play_last1 (s : PS) {a : Int} (h : a ≠ 1) (i n : Int) : (s.play a i n).last1 = s.last1 := by
  unfold PS.play
  split
  · unfold PS.peer
    split
    · rfl
    split
    · rfl
    · rfl
  split
  · unfold PS.do
    split
    · rfl
    split
    · rfl
    simp only []
    split
    · rfl
    split
    · rfl
    split
    · rfl
    split
    · rfl
    split
    · rfl
    split
    · rfl
    · rfl
  · unfold PS.limit
    split
    · rfl
    · rfl
set_option maxHeartbeats 4000000 in
set_option maxRecDepth 100000 in
theorem streamEnds_walk (server : Bool) (most : Int) (A : Option Addr) (cap : Nat) (l : List Op3) (x : Int) (w : World) (hmo : (Lit.int .u8 most).wf = true) (hl : OpsAt w A l) (hm : l.length * 24 ≤ 140737488351232) (_hw : ∀ y ∈ l, y.fits) (hx : (Lit.int .u8 x).wf = true) :
    Calls Try.prog 3 #[.bool server, .int .u8 most, .slice A l.length cap, .int .u8 x] w fun e w' => e = .returned (.bool true) ∧ Below w.heap.size w w' := by
  obtain ⟨hmo0, hmo1⟩ := bounds_u8 hmo
  obtain ⟨most, rfl⟩ := Int.eq_ofNat_of_zero_le hmo0
  obtain ⟨hx0, hx1⟩ := bounds_u8 hx
  obtain ⟨x, rfl⟩ := Int.eq_ofNat_of_zero_le hx0
  have HL := Lib.hid hl
  have hlen : l.length ≤ 17592186043904 := by omega
  have HMO : Hid (most ≤ 255) := Lib.hid (by omega)
  clear hl hm _hw hx hmo
  go_enter Try.func3, Try.ntmps3
  go_wp2_with fail
  refine (new_any server most _ (by omega) (by omega)).mono ?_
  rintro e w1 ⟨b, m, rfl, hs, hb, hm, hbl⟩
  have HS := Lib.hid hs
  have HB := Lib.hid hbl
  clear hs hbl
  go_wp2_with fail
  refine (rnewS_any server most _ (by omega) (by omega)).mono ?_
  rintro e w2 ⟨xb, rfl, hr, hxb, hb2⟩
  have HT := Lib.hid (st_new HS.out hb hm HB.out hr hxb rfl rfl hb2)
  clear hr hxb hb2 hb hm
  go_wp2_with fail
  go_loopw [13, 14, 16] (fun v13 v14 v16 wr => ∃ (k : Nat) (c : Bool) (s : PS) (r : RS), v16 = .int .i64 k ∧ v13 = .bool c ∧ v14 = .int .i64 s.last1 ∧ k ≤ l.length ∧ Hid (EndsAt w b m xb server most (1 + (x : Int) % 20) c k s r wr)) (fun _ _ v16 _ => l.length - (intOf v16).toNat)
  case atStart => exact ⟨0, false, _, _, rfl, rfl, rfl, by omega, Lib.hid ⟨pi_new server most, nofour_new server most, ri_new server most, (fun e => by cases e), HT.out⟩⟩
  case round =>
    obtain ⟨k, c, s, r, rfl, rfl, rfl, hk, HE⟩ := hrel
    by_cases hlt : k < l.length
    · obtain ⟨g, o, rfl, c0, c1, c2, hg⟩ := (HL.out.below HE.out.tw.below0).get k hlt
      generalize l[k].what = ow at *
      generalize l[k].id = oi at *
      generalize l[k].n = on at *
      have HX := Lib.hid (HE.out.tw.box [.int .i64 ow, .int .i64 oi, .int .i64 on] 31)
      have HN := Lib.hid (HE.out.nums HMO.out (by omega))
      have HC := Lib.hid c0
      obtain ⟨x0, x1, x2, xl, xf⟩ := HX.out.opCells (List.mem_cons_self ..)
      go_upto_if 53 with fail
      go_cut [14] (fun v14 wx => ∃ s' r', v14 = .int .i64 s'.last1 ∧ Hid (EndsAt w b m xb server most (1 + (x : Int) % 20) c (k + 1) s' r' wx))
      case first =>
        by_cases h1 : ow = 1
        · subst h1
          have HO := HE.out.pi.own.2
          have HP := Lib.hid (fun w' (ht : STwo w b m xb [] s.own.1 r w') => HE.out.own ht)
          have HCA := Lib.hid (t_own HX.out HN.out.1 HN.out.2.2.1 HN.out.2.2.2.1)
          have HL0 := HN.out.2.2.1
          generalize s.own = P at *
          obtain ⟨s', kk, er⟩ := P
          simp only [] at HO HP HCA
          rcases HO with ⟨rfl, rfl, e2, e3⟩ | ⟨e0, rfl⟩
          · have e4 := odd_case e3 (by omega)
            clear e3
            go_wp2_with fail
            refine HCA.out.mono ?_
            rintro e w3 ⟨rfl, hx⟩
            have HE2 := Lib.hid (HP.out _ (play_only _ _ hx))
            clear hx
            go_wp2_with fail
            all_goals (go_meet; exact ⟨s', r, rfl, HE2⟩)
          · go_wp2_with fail
            refine HCA.out.mono ?_
            rintro e w3 ⟨rfl, hx⟩
            have HE2 := Lib.hid (HP.out _ (play_only _ _ hx))
            clear hx
            go_wp2_with fail
            all_goals (go_meet; exact ⟨s', r, rfl, HE2⟩)
        · have h1b : (ow == 1) = false := by simp [h1]
          have HCA := Lib.hid (play_any HX.out.unbox HN.out.1 HN.out.2.1 HN.out.2.2.1 HN.out.2.2.2.1 HN.out.2.2.2.2.1 HN.out.2.2.2.2.2.1 HN.out.2.2.2.2.2.2.1 ow oi on)
          have HP := Lib.hid (fun w' (ht : STwo w b m xb [] (s.play ow oi on) (r.play ow oi on) w') => HE.out.play ow oi on ht)
          go_wp2_with fail
          refine HCA.out.mono ?_
          rintro e w3 ⟨v, rfl, hx, _⟩
          have HE2 := Lib.hid (HP.out _ hx)
          clear hx
          go_wp2_with fail
          all_goals (go_meet; exact ⟨s.play ow oi on, r.play ow oi on, by rw [play_last1 s h1 oi on], HE2⟩)
      case rest =>
        obtain ⟨s', r', rfl, HE2⟩ := hcut
        have HN2 := Lib.hid (HE2.out.nums HMO.out (by omega))
        have HIS := HE2.out.is
        go_wp2_with fail
        refine (t_state HE2.out.tw _).mono ?_
        rintro e w4 ⟨rfl, hx⟩
        have HE3 := Lib.hid (HE2.out.next hx)
        have HTX := Lib.hid hx
        obtain ⟨q1, q2, q3, q4, q5, q6, q7, q8, q9, q10⟩ := HN2.out
        clear hx HE2 HN2 q1 q2 q3 q4 q5 q6 q7
        have HQ := Lib.hid (HE3.out.nums HMO.out (by omega))
        generalize hst : s'.state (1 + (x : Int) % 20) = st at *
        generalize hl0 : s'.last0 = L0 at *
        have HL0 := Lib.hid hl0
        have HST := Lib.hid hst
        clear hst hl0
        have T0 := Lib.hid (fun (wz : World) (h : STwo w b m xb [] s' r' wz) => t_open h HQ.out.1 false)
        have T1 := Lib.hid (fun (wz : World) (h : STwo w b m xb [] s' r' wz) => t_open h HQ.out.1 true)
        have T2 := Lib.hid (fun (wz : World) (h : STwo w b m xb [] s' r' wz) => t_last h)
        simp only [Bool.false_eq_true, if_false, if_true] at T0 T1
        rw [HL0.out] at T2
        generalize s'.count 0 = C0 at *
        generalize s'.count 1 = C1 at *
        cases c with
        | false =>
          go_wp2_with fail
          refine (T0.out _ HTX.out).mono ?_
          rintro e w5 ⟨rfl, hx⟩
          have HTY := Lib.hid hx
          clear hx
          go_wp2_with fail
          refine (T1.out _ HTY.out).mono ?_
          rintro e w6 ⟨rfl, hx⟩
          have HTZ := Lib.hid hx
          clear hx
          go_wp2_with fail
          refine (T2.out _ HTZ.out).mono ?_
          rintro e w7 ⟨rfl, rfl⟩
          go_wp2_with fail
          go_roundw
          case rel => exact ⟨k + 1, st == 4, s', r', by go_num, rfl, rfl, by omega, Lib.hid ⟨HE3.out.pi, HE3.out.nf, HE3.out.ri, HE3.out.cl, HTZ.out⟩⟩
          case measure => simp [intOf]; omega
        | true =>
          have hs4 := HIS rfl
          subst hs4
          go_wp2_with fail
          refine (T0.out _ HTX.out).mono ?_
          rintro e w5 ⟨rfl, hx⟩
          have HTY := Lib.hid hx
          clear hx
          go_wp2_with fail
          refine (T1.out _ HTY.out).mono ?_
          rintro e w6 ⟨rfl, hx⟩
          have HTZ := Lib.hid hx
          clear hx
          go_wp2_with fail
          refine (T2.out _ HTZ.out).mono ?_
          rintro e w7 ⟨rfl, rfl⟩
          go_wp2_with fail
          go_roundw
          case rel => exact ⟨k + 1, true, s', r', by go_num, rfl, rfl, by omega, Lib.hid ⟨HE3.out.pi, HE3.out.nf, HE3.out.ri, HE3.out.cl, HTZ.out⟩⟩
          case measure => simp [intOf]; omega
    · obtain rfl : k = l.length := by omega
      go_wp2_with fail
      refine (awake_any _).mono ?_
      rintro e w4 ⟨rfl, hb⟩
      have HB4 := Lib.hid (below_then HE.out.tw.below0 hb)
      clear hb
      go_wp2_with fail
      go_ret
      exact ⟨rfl, HB4.out⟩
end Go.Proofs.Ytfhcafpocmapkaa
