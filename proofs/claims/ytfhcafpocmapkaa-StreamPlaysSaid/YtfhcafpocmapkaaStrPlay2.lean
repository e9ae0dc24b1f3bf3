/- The law's play: the other ops. -/
import Derived.Test.YtfhcafpocmapkaaStrPlay
set_option linter.unusedVariables false
set_option linter.unusedSimpArgs false
set_option linter.unusedSectionVars false
namespace Go.Proofs.Ytfhcafpocmapkaa
open Go.RowKit
section
variable {w0 w : World} {b m xb : Nat} {s : PS} {r : RS}
set_option maxHeartbeats 4000000 in
set_option maxRecDepth 100000 in
theorem play2_any (h : STwo w0 b m xb [] s r w) (hl : s.es.length ≤ 140737488355328) (hn : s.next < 140737488355328) (hr : r.es.length ≤ 4398046511104) (id n : Int) :
    Calls Try.prog 8 #[.pointer (some ⟨b, 0, none⟩), .pointer (some ⟨xb, 0, none⟩), .agg #[.int .i64 2, .int .i64 id, .int .i64 n]] w fun e w' => ∃ v, e = .returned (.bool v) ∧ STwo w0 b m xb [] (s.do id n).1 (r.do id n).1 w' ∧ ((s.do id n).2 = (r.do id n).2 → v = true) := by
  have HB := Lib.hid (h.box [.int .i64 2, .int .i64 id, .int .i64 n] 31)
  have HL := Lib.hid hl
  have HNN := Lib.hid hn
  have HR := Lib.hid hr
  have HPE := Lib.hid (fun (w : World) (bx : List (Nat × List Value)) (h : STwo w0 b m xb bx s r w) => t_do h HNN.out id n)
  have HRE := Lib.hid (fun (w : World) (bx : List (Nat × List Value)) (s : PS) (h : STwo w0 b m xb bx s r w) => t_rdo h HR.out id n)
  clear h hl hn hr
  generalize s.do id n = P at *
  generalize r.do id n = Q at *
  obtain ⟨s', nx, ⟨f1, f2, f3⟩, er⟩ := P
  obtain ⟨r', nx', ⟨g1, g2, g3⟩, er'⟩ := Q
  simp only [FaultR.val] at HPE HRE
  obtain ⟨x0, x1, x2, xl, xf⟩ := HB.out.opCells (List.mem_cons_self ..)
  go_enter Try.func8, Try.ntmps8
  go_upto_region 12 with (go_at_call 20; refine (HPE.out _ _ HB.out).mono ?_; rintro e w1 ⟨rfl, hx⟩; have HX1 := Lib.hid hx; obtain ⟨y0, y1, y2, yl, yf⟩ := hx.opCells (List.mem_cons_self ..); clear hx)
  have HX2 := Lib.hid (HX1.out.box [.bool f1, .int .i64 f2, .int .i64 f3] 53)
  change Hid (STwo w0 b m xb _ s' r (w1.alloc (.cells #[.bool f1, .int .i64 f2, .int .i64 f3] 53))) at HX2
  generalize hw2 : w1.alloc (.cells #[.bool f1, .int .i64 f2, .int .i64 f3] 53) = w2 at *
  clear hw2 x0 x1 x2 xl xf y0 y1 y2 yf
  obtain ⟨x0, x1, x2, xl, xf⟩ := HX2.out.opCells (List.mem_cons_of_mem _ (List.mem_cons_self ..))
  go_upto_region 13 with (go_at_call 21; refine (HRE.out _ _ _ HX2.out).mono ?_; rintro e w3 ⟨rfl, hx⟩; have HX3 := Lib.hid hx; clear hx)
  have HX4 := Lib.hid (HX3.out.box [.bool g1, .int .i64 g2, .int .i64 g3] 53)
  change Hid (STwo w0 b m xb _ s' r' (w3.alloc (.cells #[.bool g1, .int .i64 g2, .int .i64 g3] 53))) at HX4
  generalize hw4 : w3.alloc (.cells #[.bool g1, .int .i64 g2, .int .i64 g3] 53) = w4 at *
  clear hw4 x0 x1 x2 xl xf
  obtain ⟨y0, y1, y2, yl', yf⟩ := HX4.out.opCells (List.mem_cons_of_mem _ (List.mem_cons_self ..))
  obtain ⟨z0, z1, z2, zl, zf⟩ := HX4.out.opCells (List.mem_cons_self ..)
  clear HX1 HX2 HX3
  generalize w1.heap.size = A at *
  generalize w3.heap.size = B at *
  go_wp2_with fail
  all_goals go_ret
  all_goals (refine ⟨_, rfl, HX4.out.unbox.unbox.unbox, ?_⟩)
  all_goals (intro hq; simp at hq; first | rfl | (simp_all; done) | (obtain ⟨_, _, _, _⟩ := hq; simp_all))
set_option maxHeartbeats 4000000 in
set_option maxRecDepth 100000 in
theorem play1_any (h : STwo w0 b m xb [] s r w) (hl : s.es.length ≤ 140737488355328) (h1 : 0 ≤ s.last1) (h2 : s.last1 ≤ 2147483647) (hr : r.es.length ≤ 4398046511104) (h3 : 0 ≤ r.ours) (h4 : r.ours ≤ 2147483647) (id n : Int) :
    Calls Try.prog 8 #[.pointer (some ⟨b, 0, none⟩), .pointer (some ⟨xb, 0, none⟩), .agg #[.int .i64 1, .int .i64 id, .int .i64 n]] w fun e w' => ∃ v, e = .returned (.bool v) ∧ STwo w0 b m xb [] s.own.1 r.own.1 w' ∧ (s.own.2 = r.own.2 → v = true) := by
  have HB := Lib.hid (h.box [.int .i64 1, .int .i64 id, .int .i64 n] 31)
  have HPE := Lib.hid (fun (w : World) (bx : List (Nat × List Value)) (h : STwo w0 b m xb bx s r w) => t_own h hl h1 h2)
  have HRE := Lib.hid (fun (w : World) (bx : List (Nat × List Value)) (s : PS) (h : STwo w0 b m xb bx s r w) => t_rown h hr h3 h4)
  clear h hl hr h1 h2 h3 h4
  generalize s.own = P at *
  generalize r.own = Q at *
  obtain ⟨s', f1, f2⟩ := P
  obtain ⟨r', g1, g2⟩ := Q
  simp only [] at HPE HRE
  obtain ⟨x0, x1, x2, xl, xf⟩ := HB.out.opCells (List.mem_cons_self ..)
  go_enter Try.func8, Try.ntmps8
  go_wp2_with (first | (go_at_call 7; refine (HPE.out _ _ HB.out).mono ?_; rintro e w1 ⟨rfl, hx⟩; have HX1 := Lib.hid hx; clear hx) | (go_at_call 19; refine (HRE.out _ _ _ HX1.out).mono ?_; rintro e w3 ⟨rfl, hx⟩; have HX3 := Lib.hid hx; clear hx))
  all_goals go_ret
  all_goals (refine ⟨_, rfl, HX3.out.unbox, ?_⟩)
  all_goals (intro hq; simp at hq; first | rfl | (simp_all; done) | (obtain ⟨_, _⟩ := hq; simp_all))
end
end Go.Proofs.Ytfhcafpocmapkaa
