/- The law's play: one op on both streams. -/
import Derived.Test.YtfhcafpocmapkaaStrTwo2
import Derived.Deep.RegionHeld3
set_option linter.unusedVariables false
set_option linter.unusedSimpArgs false
set_option linter.unusedSectionVars false
namespace Go.Proofs.Ytfhcafpocmapkaa
open Go.RowKit
def PS.play (s : PS) (what id n : Int) : PS := if what = 0 then (s.peer id).1 else if what = 1 then s.own.1 else if what = 2 then (s.do id n).1 else (s.limit n).1
def RS.play (s : RS) (what id n : Int) : RS := if what = 0 then (s.peer id).1 else if what = 1 then s.own.1 else if what = 2 then (s.do id n).1 else (s.limit n).1
def agree (s : PS) (r : RS) (what id n : Int) : Prop :=
  if what = 0 then (s.peer id).2 = (r.peer id).2 else if what = 1 then s.own.2 = r.own.2 else if what = 2 then (s.do id n).2 = (r.do id n).2 else (s.limit n).2 = (r.limit n).2
section
variable {w0 w : World} {b m xb : Nat} {s : PS} {r : RS}
theorem STwo.opCells {g : Nat} {bx : List (Nat × List Value)} {x0 x1 x2 : Value} (h : STwo w0 b m xb bx s r w) (hq : (g, [x0, x1, x2]) ∈ bx) : w.cell? ⟨g, 0, none⟩ = some x0 ∧ w.cell? ⟨g, 1, none⟩ = some x1 ∧ w.cell? ⟨g, 2, none⟩ = some x2 ∧ g < w.heap.size ∧ ∀ o, w.frozen? ⟨g, o, none⟩ = false := by
  have hb := h.isBox hq
  exact ⟨hb.cell 0, hb.cell 1, hb.cell 2, hb.lt, hb.free⟩
set_option maxHeartbeats 4000000 in
set_option maxRecDepth 100000 in
theorem play0_any (h : STwo w0 b m xb [] s r w) (hl : s.es.length ≤ 140737488355328) (hn : s.next < 140737488355328) (hr : r.es.length ≤ 4398046511104) (id n : Int) :
    Calls Try.prog 8 #[.pointer (some ⟨b, 0, none⟩), .pointer (some ⟨xb, 0, none⟩), .agg #[.int .i64 0, .int .i64 id, .int .i64 n]] w fun e w' => ∃ v, e = .returned (.bool v) ∧ STwo w0 b m xb [] (s.peer id).1 (r.peer id).1 w' ∧ ((s.peer id).2 = (r.peer id).2 → v = true) := by
  have HB := Lib.hid (h.box [.int .i64 0, .int .i64 id, .int .i64 n] 31)
  have HL := Lib.hid hl
  have HNN := Lib.hid hn
  have HR := Lib.hid hr
  have HPE := Lib.hid (fun (w : World) (bx : List (Nat × List Value)) (h : STwo w0 b m xb bx s r w) => t_peer h HL.out HNN.out id)
  have HRE := Lib.hid (fun (w : World) (bx : List (Nat × List Value)) (s : PS) (h : STwo w0 b m xb bx s r w) => t_rpeer h HR.out id)
  clear h hl hn hr
  generalize s.peer id = P at *
  generalize r.peer id = Q at *
  obtain ⟨s', ok, f1, f2, f3⟩ := P
  obtain ⟨r', ok', g1, g2, g3⟩ := Q
  simp only [FaultR.val] at HPE HRE
  obtain ⟨x0, x1, x2, xl, xf⟩ := HB.out.opCells (List.mem_cons_self ..)
  go_enter Try.func8, Try.ntmps8
  go_upto_region 4 with (go_at_call 17; refine (HPE.out _ _ HB.out).mono ?_; rintro e w1 ⟨rfl, hx⟩; have HX1 := Lib.hid hx; obtain ⟨y0, y1, y2, yl, yf⟩ := hx.opCells (List.mem_cons_self ..); clear hx)
  have HX2 := Lib.hid (HX1.out.box [.bool f1, .int .i64 f2, .int .i64 f3] 53)
  change Hid (STwo w0 b m xb _ s' r (w1.alloc (.cells #[.bool f1, .int .i64 f2, .int .i64 f3] 53))) at HX2
  generalize hw2 : w1.alloc (.cells #[.bool f1, .int .i64 f2, .int .i64 f3] 53) = w2 at *
  clear hw2 x0 x1 x2 xl xf y0 y1 y2 yf
  obtain ⟨x0, x1, x2, xl, xf⟩ := HX2.out.opCells (List.mem_cons_of_mem _ (List.mem_cons_self ..))
  go_upto_region 5 with (go_at_call 18; refine (HRE.out _ _ _ HX2.out).mono ?_; rintro e w3 ⟨rfl, hx⟩; have HX3 := Lib.hid hx; clear hx)
  have HX4 := Lib.hid (HX3.out.box [.bool g1, .int .i64 g2, .int .i64 g3] 53)
  change Hid (STwo w0 b m xb _ s' r' (w3.alloc (.cells #[.bool g1, .int .i64 g2, .int .i64 g3] 53))) at HX4
  generalize hw4 : w3.alloc (.cells #[.bool g1, .int .i64 g2, .int .i64 g3] 53) = w4 at *
  clear hw4 x0 x1 x2 xl xf
  obtain ⟨y0, y1, y2, yl', yf⟩ := HX4.out.opCells (List.mem_cons_of_mem _ (List.mem_cons_self ..))
  obtain ⟨z0, z1, z2, zl, zf⟩ := HX4.out.opCells (List.mem_cons_self ..)
  clear HX1 HX2 HX3
  generalize w1.heap.size = A at *
  generalize w3.heap.size = B at *
  go_wp2_with fail
  all_goals go_ret
  all_goals (refine ⟨_, rfl, HX4.out.unbox.unbox.unbox, ?_⟩)
  all_goals (intro hq; simp at hq; first | rfl | (simp_all; done) | (obtain ⟨_, _, _, _⟩ := hq; simp_all))
end
end Go.Proofs.Ytfhcafpocmapkaa
