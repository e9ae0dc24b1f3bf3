/- The laws MessageResponses, MessageRequests and MessageApart, walked: the program and the reference say the same of every list, and no list is two of the three. -/
import Derived.Test.YtkgomkjaljpjaaaDoorMsgRReq
import Derived.Test.YtkgomkjaljpjaaaDoorMsgName
import Derived.Test.YtkgomkjaljpjaaaDoorRows
namespace Go.Proofs.YtkgomkjaljpjaaaDoor
open Go.RowKit
set_option maxHeartbeats 1000000 in
set_option maxRecDepth 100000 in
theorem messageResponses_walk (A : Option Addr) (cap : Nat) (l : List Hdr) (w : World) (hl : HdrsAt w A l) (hm : l.length * 40 ≤ 140737488351232) (hf : ∀ y ∈ l, y.fits) (hcap : l.length ≤ cap) (_hL : laidMetH Tryd.prog Rows.messageResponsesRow.laid w) :
    Calls Tryd.prog 4 #[.slice A l.length cap] w fun e w' => e = .returned (.bool true) ∧ Below w.heap.size w w' := by
  have hlen : l.length ≤ maxLen := by unfold maxLen; omega
  have H1 := Lib.hid (resp_any A cap l w hl hlen hf)
  have H2 : Hid (∀ w', Below w.heap.size w w' → Calls Tryd.prog 16 #[.slice A l.length cap] w' (RespPost (respF l) w')) := Lib.hid (fun w' hb => rresp_any A cap l w' (hl.below hb) hlen hcap hf)
  clear hl hm hf _hL hcap
  generalize respF l = r at *
  obtain ⟨r1, r2⟩ := r
  go_enter Tryd.func4, Tryd.ntmps4
  go_wp2_with fail
  refine H1.out.mono ?_
  rintro e w1 ⟨rfl, hb⟩
  have HB1 := Lib.hid hb
  clear hb
  go_wp2_with fail
  refine (H2.out _ HB1.out).mono ?_
  rintro e w2 ⟨rfl, hb⟩
  have HB2 := Lib.hid (below_then HB1.out hb)
  clear hb
  go_wp2_with fail
  refine (awake_any _).mono ?_
  rintro e w3 ⟨rfl, hb⟩
  have HB3 := Lib.hid (below_then HB2.out hb)
  clear hb
  go_wp2_with fail
  go_ret
  exact ⟨rfl, HB3.out⟩
set_option maxHeartbeats 1000000 in
set_option maxRecDepth 100000 in
theorem messageRequests_walk (A : Option Addr) (cap : Nat) (l : List Hdr) (w : World) (hl : HdrsAt w A l) (hm : l.length * 40 ≤ 140737488351232) (hf : ∀ y ∈ l, y.fits) (hcap : l.length ≤ cap) (_hL : laidMetH Tryd.prog Rows.messageRequestsRow.laid w) :
    Calls Tryd.prog 5 #[.slice A l.length cap] w fun e w' => e = .returned (.bool true) ∧ Below w.heap.size w w' := by
  have hlen : l.length ≤ maxLen := by unfold maxLen; omega
  have H1 := Lib.hid (req_any A cap l w hl hlen hf)
  have H2 : Hid (∀ w', Below w.heap.size w w' → Calls Tryd.prog 19 #[.slice A l.length cap] w' fun e w'' => e = .returned (.int .i64 (reqF l)) ∧ Below w'.heap.size w' w'') := Lib.hid (fun w' hb => rreq_any A cap l w' (hl.below hb) hlen hcap hf)
  clear hl hm hf _hL hcap
  generalize reqF l = r at *
  go_enter Tryd.func5, Tryd.ntmps5
  go_wp2_with fail
  refine H1.out.mono ?_
  rintro e w1 ⟨rfl, hb⟩
  have HB1 := Lib.hid hb
  clear hb
  go_wp2_with fail
  refine (H2.out _ HB1.out).mono ?_
  rintro e w2 ⟨rfl, hb⟩
  have HB2 := Lib.hid (below_then HB1.out hb)
  clear hb
  go_wp2_with fail
  refine (awake_any _).mono ?_
  rintro e w3 ⟨rfl, hb⟩
  have HB3 := Lib.hid (below_then HB2.out hb)
  clear hb
  go_wp2_with fail
  go_ret
  exact ⟨rfl, HB3.out⟩
theorem walkG_zero {may : List ByteArray} : ∀ {l pre : List Hdr}, walkG may pre l = 0 → ∀ h ∈ l, isPs h = true → hasN may h.name = true
  | [], _, _, h, hh, _ => by cases hh
  | a :: t, pre, hz, h, hh, hp => by
    rw [walkG] at hz
    by_cases h0 : codeW may pre a = 0
    · rw [if_pos h0] at hz
      rcases List.mem_cons.1 hh with rfl | hh
      · by_cases hn : hasN may h.name = true
        · exact hn
        · exfalso
          have hnf : hasN may h.name = false := by simpa using hn
          unfold codeW at h0
          split at h0
          · cases h0
          · split at h0
            · cases h0
            · rw [if_pos (show pseuB h.name.data.toList = true from hp), hnf] at h0
              simp at h0
      · exact walkG_zero hz h hh hp
    · rw [if_neg h0] at hz
      exact absurd hz h0
theorem walkF_zero {may : List ByteArray} {l : List Hdr} (hz : walkF may l = 0) {n v : ByteArray} (hp : pseuB n.data.toList = true) (hf : findH n l = some v) : hasN may n = true := by
  obtain ⟨h, hh, he, _⟩ := find_mem hf
  have e : h.name = n := bytes_iff.1 he
  have := walkG_zero hz h hh (by rw [isPs, e]; exact hp)
  rw [e] at this; exact this
theorem hasN_mem {may : List ByteArray} {n : ByteArray} (h : hasN may n = true) : n ∈ may := by
  rw [hasN, List.any_eq_true] at h
  obtain ⟨m, hm, e⟩ := h
  rw [← bytes_iff.1 e]; exact hm
theorem req_method {l : List Hdr} (h : reqF l = 0) : walkF reqMay l = 0 ∧ ∃ v, findH methodR l = some v := by
  unfold reqF at h
  split at h
  · rename_i h0; exact absurd h h0
  · rename_i h0
    refine ⟨by simpa using h0, ?_⟩
    split at h
    · rename_i hw
      cases hf : findH methodR l with
      | some v => exact ⟨v, rfl⟩
      | none =>
        exfalso
        have : emp (getV methodR l) = true := by rw [getV, hf]; exact emp_empty
        rw [wholeB, this] at hw
        simp [wholeT] at hw
    · cases h
theorem resp_status {l : List Hdr} (h : (respF l).2 = 0) : walkF [statusK] l = 0 ∧ (∃ v, findH statusK l = some v) ∧ 100 ≤ (respF l).1 ∧ (respF l).1 < 600 := by
  unfold respF at h ⊢
  split at h
  · rename_i h0; exact absurd h h0
  · rename_i h0
    rw [if_neg h0]
    refine ⟨by simpa using h0, ?_⟩
    split at h
    · rename_i hs
      rw [if_pos hs]
      have hsz : (getV statusK l).size = 3 := by
        by_cases q : (getV statusK l).size = 3
        · exact q
        · rw [stat_size q] at hs; cases hs
      have hd : digitsB (getV statusK l) = true := by
        cases q : digitsB (getV statusK l) with
        | true => rfl
        | false => rw [stat_dig q] at hs; cases hs
      constructor
      · cases hf : findH statusK l with
        | some v => exact ⟨v, rfl⟩
        | none => exfalso; rw [getV, hf] at hsz; exact absurd hsz (by decide)
      · obtain ⟨a, b, c, _, _, _, ha, hb, hc, hst, hnum⟩ := num3 hsz hd
        rw [hs] at hst
        have hst2 := of_decide_eq_true hst.symm
        have := dig_le ha
        have := dig_le hb
        have := dig_le hc
        split at h
        · rename_i hz; exact absurd h hz
        · rename_i hz
          rw [if_neg hz, hnum]
          simp only
          omega
    · cases h
/-- Request, response, trailers: one of them at most. -/
theorem apart {l : List Hdr} : ¬ (reqF l = 0 ∧ (respF l).2 = 0) ∧ ¬ (reqF l = 0 ∧ walkF [] l = 0) ∧ ¬ ((respF l).2 = 0 ∧ walkF [] l = 0) := by
  refine ⟨?_, ?_, ?_⟩
  · rintro ⟨h1, h2⟩
    obtain ⟨_, v, hv⟩ := req_method h1
    have := walkF_zero (resp_status h2).1 (by decide) hv
    have h4 := congrArg (fun s : ByteArray => s.data.toList) (List.mem_singleton.1 (hasN_mem this))
    revert h4; decide
  · rintro ⟨h1, h2⟩
    obtain ⟨_, v, hv⟩ := req_method h1
    have := walkF_zero h2 (by decide) hv
    exact absurd (hasN_mem this) List.not_mem_nil
  · rintro ⟨h1, h2⟩
    obtain ⟨_, ⟨v, hv⟩, _⟩ := resp_status h1
    have := walkF_zero h2 (by decide) hv
    exact absurd (hasN_mem this) List.not_mem_nil
set_option maxHeartbeats 2000000 in
set_option maxRecDepth 100000 in
theorem messageApart_walk (A : Option Addr) (cap : Nat) (l : List Hdr) (w : World) (hl : HdrsAt w A l) (hm : l.length * 40 ≤ 140737488351232) (hf : ∀ y ∈ l, y.fits) (_hL : laidMetH Tryd.prog Rows.messageApartRow.laid w) :
    Calls Tryd.prog 6 #[.slice A l.length cap] w fun e w' => e = .returned (.bool true) ∧ Below w.heap.size w w' := by
  have hlen : l.length ≤ maxLen := by unfold maxLen; omega
  have H1 := Lib.hid (req_any A cap l w hl hlen hf)
  have H2 : Hid (∀ w', Below w.heap.size w w' → Calls Tryd.prog 15 #[.slice A l.length cap] w' (RespPost (respF l) w')) := Lib.hid (fun w' hb => resp_any A cap l w' (hl.below hb) hlen hf)
  have H3 : Hid (∀ w', Below w.heap.size w w' → Calls Tryd.prog 20 #[.slice A l.length cap] w' fun e w'' => e = .returned (.int .i64 (walkF [] l)) ∧ Below w'.heap.size w' w'') := Lib.hid (fun w' hb => trailers_any A cap l w' (hl.below hb) hlen hf)
  have HA := Lib.hid (apart (l := l))
  have HS : Hid ((respF l).2 = 0 → 100 ≤ (respF l).1 ∧ (respF l).1 < 600) := Lib.hid (fun h => (resp_status h).2.2)
  clear hl hm hf _hL
  generalize reqF l = q at *
  generalize respF l = r at *
  generalize walkF [] l = t at *
  obtain ⟨r1, r2⟩ := r
  go_enter Tryd.func6, Tryd.ntmps6
  go_wp2_with fail
  refine H1.out.mono ?_
  rintro e w1 ⟨rfl, hb⟩
  have HB1 := Lib.hid hb
  clear hb
  by_cases hq : q = 0
  · have hr2 : ¬ r2 = 0 := fun e => HA.out.1 ⟨hq, e⟩
    have ht : ¬ t = 0 := fun e => HA.out.2.1 ⟨hq, e⟩
    have hr3 : (r2 == 0) = false := by simpa using hr2
    have ht3 : (t == 0) = false := by simpa using ht
    subst hq
    go_wp2_with fail
    refine (H2.out _ HB1.out).mono ?_
    rintro e w2 ⟨rfl, hb⟩
    have HB2 := Lib.hid (below_then HB1.out hb)
    clear hb
    go_wp2_with fail
    refine (H3.out _ HB2.out).mono ?_
    rintro e w3 ⟨rfl, hb⟩
    have HB3 := Lib.hid (below_then HB2.out hb)
    clear hb
    go_wp2_with fail
    refine (awake_any _).mono ?_
    rintro e w4 ⟨rfl, hb⟩
    have HB4 := Lib.hid (below_then HB3.out hb)
    clear hb
    go_wp2_with fail
    go_ret
    exact ⟨rfl, HB4.out⟩
  · have hq3 : (q == 0) = false := by simpa using hq
    by_cases hr : r2 = 0
    · have ht : ¬ t = 0 := fun e => HA.out.2.2 ⟨hr, e⟩
      have ht3 : (t == 0) = false := by simpa using ht
      obtain ⟨h1, h2⟩ := HS.out hr
      subst hr
      go_wp2_with fail
      refine (H2.out _ HB1.out).mono ?_
      rintro e w2 ⟨rfl, hb⟩
      have HB2 := Lib.hid (below_then HB1.out hb)
      clear hb
      go_wp2_with fail
      refine (H3.out _ HB2.out).mono ?_
      rintro e w3 ⟨rfl, hb⟩
      have HB3 := Lib.hid (below_then HB2.out hb)
      clear hb
      go_wp2_with fail
      refine (awake_any _).mono ?_
      rintro e w4 ⟨rfl, hb⟩
      have HB4 := Lib.hid (below_then HB3.out hb)
      clear hb
      go_wp2_with fail
      go_ret
      exact ⟨rfl, HB4.out⟩
    · have hr3 : (r2 == 0) = false := by simpa using hr
      go_wp2_with fail
      refine (H2.out _ HB1.out).mono ?_
      rintro e w2 ⟨rfl, hb⟩
      have HB2 := Lib.hid (below_then HB1.out hb)
      clear hb
      go_wp2_with fail
      refine (H3.out _ HB2.out).mono ?_
      rintro e w3 ⟨rfl, hb⟩
      have HB3 := Lib.hid (below_then HB2.out hb)
      clear hb
      by_cases ht : t = 0
      · subst ht
        go_wp2_with fail
        refine (awake_any _).mono ?_
        rintro e w4 ⟨rfl, hb⟩
        have HB4 := Lib.hid (below_then HB3.out hb)
        clear hb
        go_wp2_with fail
        go_ret
        exact ⟨rfl, HB4.out⟩
      · have ht3 : (t == 0) = false := by simpa using ht
        go_wp2_with fail
        refine (awake_any _).mono ?_
        rintro e w4 ⟨rfl, hb⟩
        have HB4 := Lib.hid (below_then HB3.out hb)
        clear hb
        go_wp2_with fail
        go_ret
        exact ⟨rfl, HB4.out⟩
end Go.Proofs.YtkgomkjaljpjaaaDoor
