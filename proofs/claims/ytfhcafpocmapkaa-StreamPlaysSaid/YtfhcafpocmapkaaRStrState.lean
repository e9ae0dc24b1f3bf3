/- The walk of the reference streams' State, New. -/
import Derived.Test.YtfhcafpocmapkaaRStrPut2
set_option linter.unusedVariables false
set_option linter.unusedSimpArgs false
set_option linter.unusedSectionVars false
namespace Go.Proofs.Ytfhcafpocmapkaa
open Go.RowKit
def RS.new (server : Bool) (most : Int) : RS := ⟨server, most, 1024, [], [], 0, 0⟩
set_option maxHeartbeats 1000000 in
set_option maxRecDepth 100000 in
theorem rnewS_any (server : Bool) (most : Int) (w : World) (h0 : 0 ≤ most) (h1 : most ≤ 1024) : Calls Try.prog 6 #[.bool server, .int .i64 most] w fun e w' => ∃ xb, e = .returned (.tuple #[.pointer (some ⟨xb, 0, none⟩), .int .i64 0]) ∧ RAt w.heap.size w' xb (.slice none 0 0) (.slice none 0 0) (RS.new server most) ∧ w.heap.size ≤ xb ∧ Below w.heap.size w w' := by
  go_enter Try.func6, Try.ntmps6
  go_wp2_with fail
  go_ret2
  exact ⟨_, rfl, ⟨BlockIs.new' ((RS.new server most).cells (.slice none 0 0) (.slice none 0 0)) _ (by simp), World.ownsRow_nil _ _ _ _, OwnsO.nil _ _, by simp [Value.ownBlock], by simp [Value.ownBlock], by simp [Value.ownBlock], by simp [RS.new]⟩, by simp, below_al (Below.refl _ _) _⟩
set_option maxHeartbeats 1000000 in
set_option maxRecDepth 100000 in
theorem rnewS_no (server : Bool) (most : Int) (w : World) (h : most < 0 ∨ 1024 < most) : Calls Try.prog 6 #[.bool server, .int .i64 most] w fun e w' => e = .returned (.tuple #[.pointer none, .int .i64 1]) ∧ w = w' := by
  rcases h with h | h
  · go_enter Try.func6, Try.ntmps6
    go_wp2_with fail
    go_ret2
    exact ⟨rfl, rfl⟩
  · have h' : ¬ most < 0 := by omega
    go_enter Try.func6, Try.ntmps6
    go_wp2_with fail
    go_ret2
    exact ⟨rfl, rfl⟩
section
variable {base xb : Nat} {w : World} {lv gv : Value} {s : RS}
theorem rstate_none {id : Int} (h : oidx id s.es = none) : s.state id = if numberB id = false ∨ (oursB s.server id = true ∧ s.ours < id) ∨ (oursB s.server id = false ∧ s.theirs < id) then 0 else 4 := by
  unfold RS.state
  rw [oidx_none h]
set_option maxHeartbeats 2000000 in
set_option maxRecDepth 100000 in
theorem rstate_any (h : RAt base w xb lv gv s) (hn : s.es.length ≤ 140737488355328) (id : Int) : Calls Try.prog 26 #[.pointer (some ⟨xb, 0, none⟩), .int .i64 id] w fun e w' => e = .returned (.int .i64 (s.state id)) ∧ Below w.heap.size w w' := by
  have HFD := Lib.hid (rofind_any h hn id)
  have HX := Lib.hid h
  generalize hr : s.state id = r
  have HR := Lib.hid hr
  clear hr
  cases hf : oidx id s.es with
  | some k =>
    obtain ⟨hlt, _, hq, _, _⟩ := oidx_some hf
    have HRR : Hid (r = s.es[k].2) := Lib.hid (by rw [← HR.out, RS.state, hq])
    rw [hf] at HFD
    obtain ⟨p, cap, rfl, hcap, hcm, hc⟩ := h.row.form
    obtain ⟨g, rfl, a0', a1', hg⟩ := hc k hlt
    have HA := Lib.hid a1'
    have hki : (k : Int) < s.es.length := by omega
    clear h hf hq a0' a1' hc HR
    generalize s.es[k].2 = z at *
    go_enter Try.func26, Try.ntmps26
    go_wp2_with fail
    refine HFD.out.mono ?_
    unfold oidxI
    rintro e w1 ⟨rfl, hb1⟩
    obtain ⟨_, _, _, x3, _, _, _, xl⟩ := (HX.out.below hb1).cells
    have a1 := (hb1.cell (p := ⟨g, k * 2 + 1, none⟩) hg).trans HA.out
    have hgl : g < w1.heap.size := Nat.lt_of_lt_of_le hg hb1.size
    have HB := Lib.hid hb1
    clear hb1
    go_wp2_with fail
    go_ret
    exact ⟨int_eq (by rw [HRR.out]), HB.out⟩
  | none =>
    have HRN := Lib.hid (HR.out.symm.trans (rstate_none hf))
    rw [hf] at HFD
    clear h hf HR
    go_enter Try.func26, Try.ntmps26
    go_wp2_with fail
    refine HFD.out.mono ?_
    unfold oidxI
    rintro e w1 ⟨rfl, hb1⟩
    obtain ⟨_, _, _, _, _, x5, x6, xl⟩ := (HX.out.below hb1).cells
    have HOW := Lib.hid (rown_any (HX.out.below hb1) id)
    have HB := Lib.hid hb1
    clear hb1
    by_cases q1 : id < 1
    · have HRR : Hid (r = 0) := Lib.hid (by rw [HRN.out, if_pos (.inl (by unfold numberB; rw [decide_eq_false_iff_not]; omega))])
      have d1 : decide (id < 1) = true := decide_eq_true q1
      go_wp2_with fail
      go_ret
      exact ⟨int_eq (by rw [HRR.out]), HB.out⟩
    · have d1 : decide (id < 1) = false := decide_eq_false q1
      by_cases q2 : 2147483647 < id
      · have HRR : Hid (r = 0) := Lib.hid (by rw [HRN.out, if_pos (.inl (by unfold numberB; rw [decide_eq_false_iff_not]; omega))])
        have d2 : decide (2147483647 < id) = true := decide_eq_true q2
        go_wp2_with fail
        go_ret
        exact ⟨int_eq (by rw [HRR.out]), HB.out⟩
      · have d2 : decide (2147483647 < id) = false := decide_eq_false q2
        have hnb : numberB id = true := by unfold numberB; rw [decide_eq_true_iff]; omega
        rw [hnb] at HRN
        cases hob : oursB s.server id with
        | true =>
          rw [hob] at HRN HOW
          by_cases q3 : s.ours < id
          · have HRR : Hid (r = 0) := Lib.hid (by rw [HRN.out, if_pos (.inr (.inl ⟨rfl, q3⟩))])
            have d3 : decide (s.ours < id) = true := decide_eq_true q3
            clear hob hnb
            go_wp2_with (go_at_call 34; refine HOW.out.mono ?_; rintro e wq ⟨rfl, rfl⟩)
            go_ret
            exact ⟨int_eq (by rw [HRR.out]), HB.out⟩
          · have HRR : Hid (r = 4) := Lib.hid (by rw [HRN.out, if_neg (by simp [q3])])
            have d3 : decide (s.ours < id) = false := decide_eq_false q3
            clear hob hnb
            go_wp2_with (go_at_call 34; refine HOW.out.mono ?_; rintro e wq ⟨rfl, rfl⟩)
            go_ret
            exact ⟨int_eq (by rw [HRR.out]), HB.out⟩
        | false =>
          rw [hob] at HRN HOW
          by_cases q3 : s.theirs < id
          · have HRR : Hid (r = 0) := Lib.hid (by rw [HRN.out, if_pos (.inr (.inr ⟨rfl, q3⟩))])
            have d3 : decide (s.theirs < id) = true := decide_eq_true q3
            clear hob hnb
            go_wp2_with (go_at_call 34; refine HOW.out.mono ?_; rintro e wq ⟨rfl, rfl⟩)
            go_ret
            exact ⟨int_eq (by rw [HRR.out]), HB.out⟩
          · have HRR : Hid (r = 4) := Lib.hid (by rw [HRN.out, if_neg (by simp [q3])])
            have d3 : decide (s.theirs < id) = false := decide_eq_false q3
            clear hob hnb
            go_wp2_with (go_at_call 34; refine HOW.out.mono ?_; rintro e wq ⟨rfl, rfl⟩)
            go_ret
            exact ⟨int_eq (by rw [HRR.out]), HB.out⟩
end
end Go.Proofs.Ytfhcafpocmapkaa
