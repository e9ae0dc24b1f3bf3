/- The law's play: the limit. -/
import Derived.Test.YtfhcafpocmapkaaStrPlay2
set_option linter.unusedVariables false
set_option linter.unusedSimpArgs false
set_option linter.unusedSectionVars false
namespace Go.Proofs.Ytfhcafpocmapkaa
open Go.RowKit
section
variable {w0 w : World} {b m xb : Nat} {s : PS} {r : RS}
set_option maxHeartbeats 4000000 in
set_option maxRecDepth 100000 in
theorem play3_any (h : STwo w0 b m xb [] s r w) {what : Int} (k0 : what ≠ 0) (k1 : what ≠ 1) (k2 : what ≠ 2) (id n : Int) :
    Calls Try.prog 8 #[.pointer (some ⟨b, 0, none⟩), .pointer (some ⟨xb, 0, none⟩), .agg #[.int .i64 what, .int .i64 id, .int .i64 n]] w fun e w' => ∃ v, e = .returned (.bool v) ∧ STwo w0 b m xb [] (s.limit n).1 (r.limit n).1 w' ∧ ((s.limit n).2 = (r.limit n).2 → v = true) := by
  have HB := Lib.hid (h.box [.int .i64 what, .int .i64 id, .int .i64 n] 31)
  have HPE := Lib.hid (fun (w : World) (bx : List (Nat × List Value)) (h : STwo w0 b m xb bx s r w) => t_limit h n)
  have HRE := Lib.hid (fun (w : World) (bx : List (Nat × List Value)) (s : PS) (h : STwo w0 b m xb bx s r w) => t_rlimit h n)
  have HBD : Hid (STwo w0 b m xb [(w.heap.size, [.int .i64 what, .int .i64 id, .int .i64 n])] s r (w.alloc (.cells #[.int .i64 what, .int .i64 id, .int .i64 n] 31)).drew) := Lib.hid (HB.out.below ⟨rfl, rfl, rfl, Nat.le_refl _, fun _ _ => rfl⟩)
  clear h
  generalize s.limit n = P at *
  generalize r.limit n = Q at *
  obtain ⟨s', f1⟩ := P
  obtain ⟨r', g1⟩ := Q
  simp only [] at HPE HRE
  have b0 : (what == 0) = false := by simpa using k0
  have b1 : (what == 1) = false := by simpa using k1
  have b2 : (what == 2) = false := by simpa using k2
  obtain ⟨x0, x1, x2, xl, xf⟩ := HB.out.opCells (List.mem_cons_self ..)
  clear k0 k1 k2
  go_enter Try.func8, Try.ntmps8
  go_upto_region 14 with fail
  go_region_held3 (fun w' => w'.cell? ⟨w.heap.size, 2, none⟩ = some (.int .i64 n)) (first | exact x2 | exact y2 | go_keep) (first | (go_at_call 22; refine (HPE.out _ _ (by first | exact HBD.out | exact HB.out)).mono ?_; rintro e w1 ⟨rfl, hx⟩; have HX1 := Lib.hid hx; have y2 := (hx.opCells (List.mem_cons_self ..)).2.2.1; clear hx) | (go_at_call 23; refine (HRE.out _ _ _ HX1.out).mono ?_; rintro e w3 ⟨rfl, hx⟩; have HX3 := Lib.hid hx; have z2 := (hx.opCells (List.mem_cons_self ..)).2.2.1; clear hx))
  go_wp2_with fail
  all_goals go_ret
  all_goals (refine ⟨_, rfl, HX3.out.unbox, ?_⟩)
  all_goals (intro hq; simp [show f1 = g1 from hq])
/-- One op, all four ways. -/
theorem play_any (h : STwo w0 b m xb [] s r w) (hl : s.es.length ≤ 140737488355328) (hn : s.next < 140737488355328) (h1 : 0 ≤ s.last1) (h2 : s.last1 ≤ 2147483647) (hr : r.es.length ≤ 4398046511104) (h3 : 0 ≤ r.ours) (h4 : r.ours ≤ 2147483647) (what id n : Int) :
    Calls Try.prog 8 #[.pointer (some ⟨b, 0, none⟩), .pointer (some ⟨xb, 0, none⟩), .agg #[.int .i64 what, .int .i64 id, .int .i64 n]] w fun e w' => ∃ v, e = .returned (.bool v) ∧ STwo w0 b m xb [] (s.play what id n) (r.play what id n) w' ∧ (agree s r what id n → v = true) := by
  unfold PS.play RS.play agree
  by_cases k0 : what = 0
  · subst k0
    simpa using play0_any h hl hn hr id n
  · by_cases k1 : what = 1
    · subst k1
      simpa using play1_any h hl h1 h2 hr h3 h4 id n
    · by_cases k2 : what = 2
      · subst k2
        simpa using play2_any h hl hn hr id n
      · simp only [k0, k1, k2, if_false]
        exact play3_any h k0 k1 k2 id n
end
end Go.Proofs.Ytfhcafpocmapkaa
