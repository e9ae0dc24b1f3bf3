/- The law ConnSetups: which setups may be. -/
import Derived.Test.YtbekmflfmmcffaaGreatSetAsk
import Derived.Test.YtbekmflfmmcffaaGreatInts
set_option linter.unusedVariables false
set_option linter.unusedSimpArgs false
set_option linter.unusedSectionVars false
namespace Go.Proofs.YtbekmflfmmcffaaGreat
open Go.RowKit Go.ChangeShapes Go.WideShapes
set_option maxRecDepth 100000 in
theorem open_setup7 {H : Type} {enc : TypeId × Value → H} {w : World} {fuel : Nat} {cs : List Value} {x : DataW H × List MemPlace}
    (h : DataW.trod enc Tryz.prog w 0 (fun _ => true) true fuel 23 cs = some x) : ∃ (s : Bool) (a b f l t q : Int), cs = [.bool s, .int .i64 a, .int .i64 b, .int .i64 f, .int .i64 l, .int .i64 t, .int .i64 q] := by
  obtain ⟨xs, n, rfl, _, hl, hxl, hf⟩ := DataW.trod_struct Tryz.underlying23 h
  have e3 : Tryz.prog.cellsOf 23 = 7 := by kernel_rfl
  have e9 : Tryz.prog.cellsOf 3 = 1 := by kernel_rfl
  have e8 : Tryz.prog.cellsOf 4 = 1 := by kernel_rfl
  rw [e3] at hl
  match xs, hxl, cs, hl with
  | [y0, y1, y2, y3, y4, y5, y6], _, [c0, c1, c2, c3, c4, c5, c6], _ =>
    have g0 := hf 0 _ rfl
    have g1 := hf 1 _ rfl
    have g2 := hf 2 _ rfl
    have g3 := hf 3 _ rfl
    have g4 := hf 4 _ rfl
    have g5 := hf 5 _ rfl
    have g6 := hf 6 _ rfl
    simp [e9, e8] at g0 g1 g2 g3 g4 g5 g6
    obtain ⟨s0, h0, _⟩ := DataW.trod_bool Tryz.underlying4 g0
    obtain ⟨s1, h1, _, w1⟩ := DataW.trod_int Tryz.underlying3 g1
    obtain ⟨s2, h2, _, w2⟩ := DataW.trod_int Tryz.underlying3 g2
    obtain ⟨s3, h3, _, w3⟩ := DataW.trod_int Tryz.underlying3 g3
    obtain ⟨s4, h4, _, w4⟩ := DataW.trod_int Tryz.underlying3 g4
    obtain ⟨s5, h5, _, w5⟩ := DataW.trod_int Tryz.underlying3 g5
    obtain ⟨s6, h6, _, w6⟩ := DataW.trod_int Tryz.underlying3 g6
    simp only [List.cons.injEq, and_true] at h0 h1 h2 h3 h4 h5 h6
    subst h0; subst h1; subst h2; subst h3; subst h4; subst h5; subst h6
    exact ⟨s0, s1, s2, s3, s4, s5, s6, rfl⟩
theorem open_setup {H : Type} {enc : TypeId × Value → H} {w : World} {a : Array Value} {d : DataW H} {p : List MemPlace} (h : DataW.Trod enc Tryz.prog w 0 (fun _ => true) true 23 (.agg a) d p) : ∃ (s : Bool) (x b f l t q : Int), a = #[.bool s, .int .i64 x, .int .i64 b, .int .i64 f, .int .i64 l, .int .i64 t, .int .i64 q] := by
  obtain ⟨fuel, hf⟩ := h
  obtain ⟨s, x, b, f, l, t, q, e⟩ := open_setup7 (cs := a.toList) (by simpa [Value.cells] using hf)
  exact ⟨s, x, b, f, l, t, q, by cases a; simpa using e⟩
set_option maxRecDepth 100000 in
theorem plain_any (srv : Bool) (w : World) : Calls Tryz.prog 20 #[.bool srv] w fun e w' => e = .returned (setupV srv 5 1000 16384 4000 4096 300) ∧ Below w.heap.size w w' := by
  go_enter Tryz.func20, Tryz.ntmps20
  go_wp2_with fail
  try simp only [Exit.inBlock, Exit.then]
  refine bodyPost_ret (results_cell_row rfl _ _ w.heap.size _ _ (0, 0) _ rfl (heap_alloc_new w _) Tryz.underlying23 rfl (by kernel_rfl)) rfl ?_
  exact ⟨rfl, by repeat (first | exact Below.refl _ _ | apply below_al)⟩
set_option maxHeartbeats 1000000 in
set_option maxRecDepth 100000 in
theorem awake_any (w : World) : Calls Tryz.prog 5 #[] w fun e w' => e = .returned (.bool true) ∧ Below w.heap.size w w' := by
  go_enter Tryz.func5, Tryz.ntmps5
  go_wp2_with fail
  refine (plain_any false _).mono ?_
  rintro e w1 ⟨rfl, hb⟩
  have HB := Lib.hid hb
  clear hb
  go_wp2_with fail
  refine (newok_any false 5 1000 16384 4000 4096 300 (by unfold MayS; omega) _).mono ?_
  rintro e w2 ⟨cb, mo, gr, inn, join, dec, enc, sets, strs, snd, cred, p, n, c, rfl, hc, hm, h24, -, -, hb⟩
  have HC := Lib.hid hc
  have HM := Lib.hid hm
  have HB := Lib.hid (below_then HB.out hb)
  have h24' : (24 : Int) < n := by have := h24 rfl; omega
  clear hc hm hb h24
  go_wp2_with fail
  refine (cwait_any _ _ _ _ _ _ _ _ _ _ _ _ _ _ _ _ _ _ _ _ _ _ HC.out HM.out).mono ?_
  rintro e w3 ⟨rfl, hb⟩
  have HC := Lib.hid (HC.out.of_same (hb.block _ HC.out.lt))
  have HB := Lib.hid (below_then HB.out hb)
  clear hb
  go_wp2_with fail
  refine (cfailed_any _ _ _ _ _ _ _ _ _ _ _ _ _ _ _ _ _ _ _ _ _ _ HC.out).mono ?_
  rintro e w4 ⟨rfl, hw⟩
  obtain rfl := hw.symm
  clear hw
  go_wp2_with fail
  go_ret
  exact ⟨rfl, HB.out⟩
set_option maxHeartbeats 4000000 in
set_option maxRecDepth 100000 in
theorem connSetups_walk (srv : Bool) (a b f li t q : Int) (w : World) : Calls Tryz.prog 3 #[.agg #[.bool srv, .int .i64 a, .int .i64 b, .int .i64 f, .int .i64 li, .int .i64 t, .int .i64 q]] w fun e w' => e = .returned (.bool true) ∧ Below w.heap.size w w' := by
  have hl : BlockIs (w.alloc (.cells #[.bool srv, .int .i64 a, .int .i64 b, .int .i64 f, .int .i64 li, .int .i64 t, .int .i64 q] 23)) w.heap.size (setupL srv a b f li t q) := BlockIs.new w (setupL srv a b f li t q) _
  have HL := Lib.hid hl
  have HB := Lib.hid (below_al (Below.refl w.heap.size w) (.cells #[.bool srv, .int .i64 a, .int .i64 b, .int .i64 f, .int .i64 li, .int .i64 t, .int .i64 q] 23))
  clear hl
  go_enter Tryz.func3, Tryz.ntmps3
  go_wp2_with fail
  by_cases hM : MayS a b f li t q
  · have HM0 := Lib.hid hM
    clear hM
    refine (newok_any srv a b f li t q HM0.out _).mono ?_
    rintro e w1 ⟨cb, mo, gr, inn, join, dec, enc, sets, strs, snd, cred, p, n, c, rfl, hc, hm, -, -, -, hb⟩
    have HC := Lib.hid hc
    have HM := Lib.hid hm
    have HL := Lib.hid (HL.out.of_same (hb.block _ HL.out.lt))
    have HB := Lib.hid (below_then HB.out hb)
    clear hc hm hb
    obtain ⟨⟨a0, a1⟩, ⟨b0, b1⟩, ⟨f0, f1⟩, ⟨l0, l1⟩, ⟨t0, t1⟩, ⟨q0, q1⟩⟩ := HM0.out
    obtain ⟨x0, x1, x2, x3, x4, x5, x6⟩ := SevenAt.of HL.out
    go_wp2_with fail
    clear x0 x1 x2 x3 x4 x5 x6 a0 a1 b0 b1 f0 f1 l0 l1 t0 t1 q0 q1
    refine (cready_any _ _ _ _ _ _ _ _ _ _ _ _ _ _ _ _ _ _ _ _ _ _ HC.out).mono ?_
    rintro e w2 ⟨rfl, hw⟩
    obtain rfl := hw.symm
    clear hw
    go_wp2_with fail
    refine (cslots_any _ _ _ _ _ _ _ _ _ _ _ _ _ _ _ _ _ _ _ _ _ _ HC.out).mono ?_
    rintro e w2 ⟨rfl, hw⟩
    obtain rfl := hw.symm
    clear hw
    go_wp2_with fail
    refine (cstreams_any _ _ _ _ _ _ _ _ _ _ _ _ _ _ _ _ _ _ _ _ _ _ HC.out HM.out).mono ?_
    rintro e w3 ⟨rfl, hb⟩
    have HC := Lib.hid (HC.out.of_same (hb.block _ HC.out.lt))
    have HB := Lib.hid (below_then HB.out hb)
    clear hb
    go_wp2_with fail
    refine (cfailed_any _ _ _ _ _ _ _ _ _ _ _ _ _ _ _ _ _ _ _ _ _ _ HC.out).mono ?_
    rintro e w4 ⟨rfl, hw⟩
    obtain rfl := hw.symm
    clear hw
    go_wp2_with fail
    refine (awake_any _).mono ?_
    rintro e w5 ⟨rfl, hb⟩
    have HB := Lib.hid (below_then HB.out hb)
    clear hb
    go_wp2_with fail
    go_ret
    exact ⟨rfl, HB.out⟩
  · refine (newbad_any srv a b f li t q hM _).mono ?_
    rintro e w1 ⟨rfl, hb⟩
    have HM0 := Lib.hid hM
    have HL := Lib.hid (HL.out.of_same (hb.block _ HL.out.lt))
    have HB := Lib.hid (below_then HB.out hb)
    clear hM hb
    obtain ⟨x0, x1, x2, x3, x4, x5, x6⟩ := SevenAt.of HL.out
    by_cases c0 : 0 ≤ a
    · by_cases c1 : a ≤ 1024
      · by_cases c2 : 0 ≤ b
        · by_cases c3 : b ≤ 2147483647
          · by_cases c4 : 16384 ≤ f
            · by_cases c5 : f ≤ 16777215
              · by_cases c6 : 0 ≤ li
                · by_cases c7 : li ≤ 2147483647
                  · by_cases c8 : 0 ≤ t
                    · by_cases c9 : t ≤ 65536
                      · by_cases c10 : 0 ≤ q
                        · by_cases c11 : q ≤ 1048576
                          · exact absurd ⟨⟨c0, c1⟩, ⟨c2, c3⟩, ⟨c4, c5⟩, ⟨c6, c7⟩, ⟨c8, c9⟩, ⟨c10, c11⟩⟩ HM0.out
                          · have d11 : decide (q ≤ 1048576) = false := decide_eq_false c11
                            go_wp2_with fail
                            refine (awake_any _).mono ?_
                            rintro e w5 ⟨rfl, hb⟩
                            have HB := Lib.hid (below_then HB.out hb)
                            clear hb
                            go_wp2_with fail
                            go_ret
                            exact ⟨rfl, HB.out⟩
                        · go_wp2_with fail
                          refine (awake_any _).mono ?_
                          rintro e w5 ⟨rfl, hb⟩
                          have HB := Lib.hid (below_then HB.out hb)
                          clear hb
                          go_wp2_with fail
                          go_ret
                          exact ⟨rfl, HB.out⟩
                      · go_wp2_with fail
                        refine (awake_any _).mono ?_
                        rintro e w5 ⟨rfl, hb⟩
                        have HB := Lib.hid (below_then HB.out hb)
                        clear hb
                        go_wp2_with fail
                        go_ret
                        exact ⟨rfl, HB.out⟩
                    · go_wp2_with fail
                      refine (awake_any _).mono ?_
                      rintro e w5 ⟨rfl, hb⟩
                      have HB := Lib.hid (below_then HB.out hb)
                      clear hb
                      go_wp2_with fail
                      go_ret
                      exact ⟨rfl, HB.out⟩
                  · go_wp2_with fail
                    refine (awake_any _).mono ?_
                    rintro e w5 ⟨rfl, hb⟩
                    have HB := Lib.hid (below_then HB.out hb)
                    clear hb
                    go_wp2_with fail
                    go_ret
                    exact ⟨rfl, HB.out⟩
                · go_wp2_with fail
                  refine (awake_any _).mono ?_
                  rintro e w5 ⟨rfl, hb⟩
                  have HB := Lib.hid (below_then HB.out hb)
                  clear hb
                  go_wp2_with fail
                  go_ret
                  exact ⟨rfl, HB.out⟩
              · go_wp2_with fail
                refine (awake_any _).mono ?_
                rintro e w5 ⟨rfl, hb⟩
                have HB := Lib.hid (below_then HB.out hb)
                clear hb
                go_wp2_with fail
                go_ret
                exact ⟨rfl, HB.out⟩
            · go_wp2_with fail
              refine (awake_any _).mono ?_
              rintro e w5 ⟨rfl, hb⟩
              have HB := Lib.hid (below_then HB.out hb)
              clear hb
              go_wp2_with fail
              go_ret
              exact ⟨rfl, HB.out⟩
          · go_wp2_with fail
            refine (awake_any _).mono ?_
            rintro e w5 ⟨rfl, hb⟩
            have HB := Lib.hid (below_then HB.out hb)
            clear hb
            go_wp2_with fail
            go_ret
            exact ⟨rfl, HB.out⟩
        · go_wp2_with fail
          refine (awake_any _).mono ?_
          rintro e w5 ⟨rfl, hb⟩
          have HB := Lib.hid (below_then HB.out hb)
          clear hb
          go_wp2_with fail
          go_ret
          exact ⟨rfl, HB.out⟩
      · go_wp2_with fail
        refine (awake_any _).mono ?_
        rintro e w5 ⟨rfl, hb⟩
        have HB := Lib.hid (below_then HB.out hb)
        clear hb
        go_wp2_with fail
        go_ret
        exact ⟨rfl, HB.out⟩
    · go_wp2_with fail
      refine (awake_any _).mono ?_
      rintro e w5 ⟨rfl, hb⟩
      have HB := Lib.hid (below_then HB.out hb)
      clear hb
      go_wp2_with fail
      go_ret
      exact ⟨rfl, HB.out⟩
end Go.Proofs.YtbekmflfmmcffaaGreat
