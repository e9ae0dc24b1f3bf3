/- The law StreamNumbers: numbers rise, on either side. -/
import Derived.Test.YtpnghehigffcdaaStrNums
import Derived.Deep.DeepCutAuto
namespace Go.Proofs.Ytpnghehigffcdaa
open Go.RowKit
set_option maxHeartbeats 4000000 in
set_option maxRecDepth 100000 in
theorem streamNumbers_walk (server : Bool) (n : Int) (A : Option Addr) (cap : Nat) (l : List Int) (w : World) (hn : (Lit.int .u8 n).wf = true) (hl : IntsAt w A l) (hm : l.length * 8 ≤ 140737488351232) (_hw : ∀ y ∈ l, (Lit.int .i64 y).wf = true) :
    Calls Try.prog 4 #[.bool server, .int .u8 n, .slice A l.length cap] w fun e w' => e = .returned (.bool true) ∧ Below w.heap.size w w' := by
  obtain ⟨hn0, hn1⟩ := bounds_u8 hn
  obtain ⟨n, rfl⟩ := Int.eq_ofNat_of_zero_le hn0
  have HL := Lib.hid hl
  have hlen : l.length ≤ 17592186043904 := by omega
  clear hl hm hn _hw
  go_enter Try.func4, Try.ntmps4
  go_wp2_with fail
  refine (new_any server 1024 _ (by omega) (by omega)).mono ?_
  rintro e w1 ⟨b, m, rfl, hs, hb, hm, hbl⟩
  have HS := Lib.hid hs
  have HB := Lib.hid hbl
  clear hs hbl
  go_upto_if 26 with (fail)
  go_cut [9] (fun v9 wx => v9 = .int .i64 (firstI server) ∧ wx = w1)
  case first =>
    go_wp2_with fail
    all_goals (go_meet; exact ⟨by simp_all [firstI], rfl⟩)
  case rest =>
    obtain ⟨rfl, rfl⟩ := hcut
    have hf1 : 1 ≤ firstI server := by unfold firstI; split <;> omega
    have hf2 : firstI server ≤ 2 := by unfold firstI; split <;> omega
    go_wp2_with fail
    go_loopw [10] (fun i wr => ∃ (k : Nat) (st : PS), i = .int .i64 k ∧ k ≤ n % 50 ∧ Hid (StrAt wr b m st) ∧ Hid (Own1 server k st) ∧ Hid (Below w.heap.size w wr)) (fun i _ => n % 50 - (intOf i).toNat)
    case atStart => exact ⟨0, _, rfl, by omega, HS, Lib.hid (own1_zero server), HB⟩
    case round =>
      obtain ⟨k, st, rfl, hk, hs, hi, hbl⟩ := hrel
      by_cases hlt : k < n % 50
      · obtain ⟨e1, e2, hi2⟩ := own1_step hi.out (by omega)
        have E1 := Lib.hid e1
        have E2 := Lib.hid e2
        have HI2 := Lib.hid hi2
        have hq : (k : Int) < (n : Int) % 50 := by omega
        have L1 := Lib.hid (show 0 ≤ st.last1 ∧ st.last1 ≤ 2147483647 ∧ st.es.length ≤ 140737488355328 by
          have h1 := hi.out.last1
          have h2 := hi.out.len
          have hf : 1 ≤ firstI server ∧ firstI server ≤ 2 := by unfold firstI; split <;> omega
          refine ⟨?_, ?_, by omega⟩ <;> rw [h1] <;> split <;> omega)
        clear e1 e2 hi2
        go_wp2_with fail
        refine (own_any b m st _ hs.out L1.out.2.2 L1.out.1 L1.out.2.1).mono ?_
        unfold OwnPost
        rw [E1.out, E2.out]
        rintro e w2 ⟨rfl, hs2, hk2⟩
        have HS2 := Lib.hid hs2
        have HB2 := Lib.hid (hbl.out.trans (hk2.below hbl.out.size (fun k e => by rcases e with rfl | rfl <;> assumption)))
        clear hs2 hk2
        go_wp2_with fail
        go_roundw
        case rel => exact ⟨k + 1, _, by go_num, by omega, HS2, HI2, HB2⟩
        case measure => simp [intOf]; omega
      · obtain rfl : k = n % 50 := by omega
        generalize hq : n % 50 = q at *
        have HQ := Lib.hid hq
        clear hlt hk
        go_wp2_with fail
        go_loopw [13, 14, 15] (fun v13 v14 v15 wr => ∃ (k opened : Nat) (last : Int) (st : PS), v15 = .int .i64 k ∧ v14 = .int .i64 opened ∧ v13 = .int .i64 last ∧ k ≤ l.length ∧ opened ≤ 1000 ∧ Hid (StrAt wr b m st) ∧ Hid (Peer1 server q last opened st) ∧ Hid (Below w.heap.size w wr)) (fun _ _ v15 _ => l.length - (intOf v15).toNat)
        case atStart => exact ⟨0, 0, 0, st, rfl, rfl, rfl, by omega, by omega, hs, Lib.hid (peer1_start hi.out), hbl⟩
        case round =>
          obtain ⟨k, opened, last, st, rfl, rfl, rfl, hk, hop, hs, hp, hbl⟩ := hrel
          by_cases hin : k < l.length ∧ opened < 1000
          · obtain ⟨hk1, ho1⟩ := hin
            obtain ⟨g, o, rfl, hc0, hg⟩ := (HL.out.below hbl.out).get k hk1
            obtain ⟨py, pn⟩ := peer1_step hp.out ho1 l[k]
            generalize hid : l[k] = id at *
            have L1 := Lib.hid (show st.es.length ≤ 140737488355328 ∧ st.next < 140737488355328 by
              have h1 := hp.out.len
              have h2 := hp.out.next
              have h3 := HQ.out
              omega)
            have HID := Lib.hid hid
            clear hid
            cases hmay : mayB server id last with
            | true =>
              obtain ⟨e1, hp2⟩ := py hmay
              have E1 := Lib.hid e1
              have HP2 := Lib.hid hp2
              simp only [mayB, Bool.and_eq_true, decide_eq_true_eq] at hmay
              obtain ⟨⟨⟨m1, m2⟩, m3⟩, m4⟩ := hmay
              have m5 : (id % 2 == 1) = server := by rw [Int.tmod_eq_emod_of_nonneg (by omega)] at m3; simpa using m3
              clear py pn e1 hp2 m3
              go_wp2_with fail
              refine (peer_any b m st id _ hs.out L1.out.1 L1.out.2).mono ?_
              unfold PeerPost
              rw [E1.out]
              rintro e w2 ⟨rfl, hs2, hk2⟩
              have HS2 := Lib.hid hs2
              have HB2 := Lib.hid (hbl.out.trans (hk2.below hbl.out.size (fun k e => by rcases e with rfl | rfl <;> assumption)))
              obtain ⟨g2, o2, ead, hc2, hg2⟩ := (HL.out.below HB2.out).get k hk1
              obtain ⟨rfl, rfl⟩ : g = g2 ∧ o = o2 := by injection ead with h; injection h; exact ⟨by assumption, by assumption⟩
              rw [HID.out] at hc2
              clear hs2 hk2 ead
              simp only [FaultR.val, noFault]
              go_wp2_with fail
              go_roundw
              case rel => exact ⟨k + 1, opened + 1, id, (st.peer id).1, by go_num, by go_num, rfl, by omega, by omega, by repeat (first | exact HS2.out | apply StrAt.alloc), HP2, Lib.hid (by repeat (first | exact HB2.out | apply below_al))⟩
              case measure => simp [intOf]; omega
            | false =>
              have E1 := Lib.hid (pn hmay)
              clear py pn
              have fin : ∀ (u2 : World), StrAt u2 b m st → Keeps (fun k => k = b ∨ k = m) wr u2 → Below w.heap.size w u2 := fun u2 _ hk2 => hbl.out.trans (hk2.below hbl.out.size (fun k e => by rcases e with rfl | rfl <;> assumption))
              have FIN := Lib.hid fin
              clear fin
              have CALL := Lib.hid (peer_any b m st id wr hs.out L1.out.1 L1.out.2)
              have GO : ∀ (e : Ending) (w2 : World), PeerPost b m st id wr e w2 → e = .returned (.tuple #[.bool false, .agg #[.bool true, .int .i64 0, .int .i64 1]]) ∧ StrAt w2 b m st ∧ Below w.heap.size w w2 ∧ w2.cell? ⟨g, o + k, none⟩ = some (.int .i64 id) ∧ g < w2.heap.size := by
                intro e w2 hpp
                unfold PeerPost at hpp
                rw [E1.out] at hpp
                obtain ⟨rfl, hs2, hk2⟩ := hpp
                have hb2 := FIN.out _ hs2 hk2
                obtain ⟨g2, o2, ead, hc2, hg2⟩ := (HL.out.below hb2).get k hk1
                obtain ⟨rfl, rfl⟩ : g = g2 ∧ o = o2 := by injection ead with h; injection h; exact ⟨by assumption, by assumption⟩
                rw [HID.out] at hc2
                exact ⟨rfl, hs2, hb2, hc2, hg2⟩
              have CALL2 := Lib.hid (CALL.out.mono GO)
              clear GO
              have HM := Lib.hid hmay
              clear hmay
              by_cases m1 : 1 ≤ id
              · have HODD := Lib.hid (Int.tmod_eq_emod_of_nonneg (a := id) (b := 2) (by omega))
                by_cases m2 : id ≤ 2147483647
                · by_cases m4 : last < id
                  · have m5 : (id % 2 == 1) = !server := by
                      have := HM.out
                      unfold mayB at this
                      rw [HODD.out] at this
                      simp only [m1, m2, m4, decide_true, Bool.true_and, Bool.and_true] at this
                      revert this
                      cases server <;> cases (id % 2 == 1) <;> simp
                    go_wp2_with fail
                    refine CALL2.out.mono ?_
                    rintro e w2 ⟨rfl, hs2, hb2, hc2, hg2⟩
                    have HS2 := Lib.hid hs2
                    have HB2 := Lib.hid hb2
                    clear hs2 hb2
                    cases server
                    all_goals
                      go_wp2_with fail
                      go_roundw
                      case rel => exact ⟨k + 1, opened, last, st, by go_num, rfl, rfl, by omega, by omega, by repeat (first | exact HS2.out | apply StrAt.alloc), hp, Lib.hid (by repeat (first | exact HB2.out | apply below_al))⟩
                      case measure => simp [intOf]; omega
                  · go_wp2_with fail
                    refine CALL2.out.mono ?_
                    rintro e w2 ⟨rfl, hs2, hb2, hc2, hg2⟩
                    have HS2 := Lib.hid hs2
                    have HB2 := Lib.hid hb2
                    clear hs2 hb2
                    go_wp2_with fail
                    all_goals
                      go_roundw
                      case rel => exact ⟨k + 1, opened, last, st, by go_num, rfl, rfl, by omega, by omega, by repeat (first | exact HS2.out | apply StrAt.alloc), hp, Lib.hid (by repeat (first | exact HB2.out | apply below_al))⟩
                      case measure => simp [intOf]; omega
                · go_wp2_with fail
                  refine CALL2.out.mono ?_
                  rintro e w2 ⟨rfl, hs2, hb2, hc2, hg2⟩
                  have HS2 := Lib.hid hs2
                  have HB2 := Lib.hid hb2
                  clear hs2 hb2
                  go_wp2_with fail
                  all_goals
                    go_roundw
                    case rel => exact ⟨k + 1, opened, last, st, by go_num, rfl, rfl, by omega, by omega, by repeat (first | exact HS2.out | apply StrAt.alloc), hp, Lib.hid (by repeat (first | exact HB2.out | apply below_al))⟩
                    case measure => simp [intOf]; omega
              · go_wp2_with fail
                refine CALL2.out.mono ?_
                rintro e w2 ⟨rfl, hs2, hb2, hc2, hg2⟩
                have HS2 := Lib.hid hs2
                have HB2 := Lib.hid hb2
                clear hs2 hb2
                go_wp2_with fail
                all_goals
                  go_roundw
                  case rel => exact ⟨k + 1, opened, last, st, by go_num, rfl, rfl, by omega, by omega, by repeat (first | exact HS2.out | apply StrAt.alloc), hp, Lib.hid (by repeat (first | exact HB2.out | apply below_al))⟩
                  case measure => simp [intOf]; omega
          · have hend : k = l.length ∨ opened = 1000 := by omega
            have HP := Lib.hid (show st.last0 = last ∧ st.count 1 = q ∧ st.count 0 = opened ∧ st.es.length ≤ 140737488355328 from ⟨hp.out.last0, hp.out.c1, hp.out.c0, by rw [hp.out.len]; omega⟩)
            have hq : (n : Int) % 50 = (q : Int) := by have := HQ.out; omega
            have fin2 : ∀ w1 w2 : World, Below w.heap.size w w1 → Below w1.heap.size w1 w2 → Below w.heap.size w w2 := fun w1 w2 h1 h2 => below_then h1 h2
            by_cases hkl : k < l.length
            · obtain rfl : opened = 1000 := by omega
              go_wp2_with fail
              refine (last_any b m st _ hs.out).mono ?_
              rw [HP.out.1]
              rintro e w2 ⟨rfl, rfl⟩
              go_wp2_with fail
              refine (open_any b m st true _ hs.out HP.out.2.2.2).mono ?_
              rw [show st.count (if true = true then 1 else 0) = q from HP.out.2.1]
              rintro e w2 ⟨rfl, hb2⟩
              have HS2 := Lib.hid (hs.out.below hb2)
              have HB2 := Lib.hid (below_then hbl.out hb2)
              clear hb2
              go_wp2_with fail
              refine (open_any b m st false _ HS2.out HP.out.2.2.2).mono ?_
              rw [show st.count (if false = true then 1 else 0) = 1000 from HP.out.2.2.1]
              rintro e w3 ⟨rfl, hb3⟩
              have HB3 := Lib.hid (below_then HB2.out hb3)
              clear hb3
              go_wp2_with fail
              refine (awake_any _).mono ?_
              rintro e w4 ⟨rfl, hb4⟩
              have HB4 := Lib.hid (below_then HB3.out hb4)
              clear hb4
              go_wp2_with fail
              go_ret
              exact ⟨rfl, HB4.out⟩
            · go_wp2_with fail
              refine (last_any b m st _ hs.out).mono ?_
              rw [HP.out.1]
              rintro e w2 ⟨rfl, rfl⟩
              go_wp2_with fail
              refine (open_any b m st true _ hs.out HP.out.2.2.2).mono ?_
              rw [show st.count (if true = true then 1 else 0) = q from HP.out.2.1]
              rintro e w2 ⟨rfl, hb2⟩
              have HS2 := Lib.hid (hs.out.below hb2)
              have HB2 := Lib.hid (below_then hbl.out hb2)
              clear hb2
              go_wp2_with fail
              refine (open_any b m st false _ HS2.out HP.out.2.2.2).mono ?_
              rw [show st.count (if false = true then 1 else 0) = opened from HP.out.2.2.1]
              rintro e w3 ⟨rfl, hb3⟩
              have HB3 := Lib.hid (below_then HB2.out hb3)
              clear hb3
              go_wp2_with fail
              refine (awake_any _).mono ?_
              rintro e w4 ⟨rfl, hb4⟩
              have HB4 := Lib.hid (below_then HB3.out hb4)
              clear hb4
              go_wp2_with fail
              go_ret
              exact ⟨rfl, HB4.out⟩
end Go.Proofs.Ytpnghehigffcdaa
