/- The law's comparison of both streams: all that they tell. -/
import Derived.Test.YtfhcafpocmapkaaStrList
import Derived.Test.YtfhcafpocmapkaaStrSame3
import Derived.Test.YtfhcafpocmapkaaStrEnds
import Derived.Deep.RegionHeld3
set_option linter.unusedVariables false
set_option linter.unusedSimpArgs false
set_option linter.unusedSectionVars false
namespace Go.Proofs.Ytfhcafpocmapkaa
open Go.RowKit
section
variable {w0 w : World} {b m xb : Nat} {bx : List (Nat × List Value)} {s : PS} {r : RS}
theorem STwo.c5 (h : STwo w0 b m xb bx s r w) : w.cell? ⟨xb, 5, none⟩ = some (.int .i64 r.theirs) := by
  obtain ⟨lv, gv, _, h2, _⟩ := h
  exact h2.cells.2.2.2.2.2.1
theorem STwo.lt (h : STwo w0 b m xb bx s r w) : xb < w.heap.size := by
  obtain ⟨lv, gv, _, h2, _⟩ := h
  exact h2.cells.2.2.2.2.2.2.2
theorem t_dropped (h : STwo w0 b m xb bx s r w) (id : Int) :
    Calls Try.prog 27 #[.pointer (some ⟨b, 0, none⟩), .int .i64 id] w fun e w' => e = .returned (.bool (s.dropped id)) ∧ STwo w0 b m xb bx s r w' := by
  have h' := h
  obtain ⟨lv, gv, h1, h2, h3, h4, h5, h6⟩ := h
  exact (dropped_any b m s id w h1).mono fun e w' hp => ⟨hp.1, hp.2 ▸ h'⟩
theorem t_rdropped (h : STwo w0 b m xb bx s r w) (id : Int) :
    Calls Try.prog 28 #[.pointer (some ⟨xb, 0, none⟩), .int .i64 id] w fun e w' => e = .returned (.bool (r.dropped id)) ∧ STwo w0 b m xb bx s r w' := by
  have h' := h
  obtain ⟨lv, gv, h1, h2, h3, h4, h5, h6⟩ := h
  exact (rdropped_any h2 id).mono fun e w' hp => ⟨hp.1, h'.below hp.2⟩
theorem t_lists (h : STwo w0 b m xb bx s r w) (hs : SR s r) (hl : s.es.length ≤ 1048576) :
    Calls Try.prog 30 #[.pointer (some ⟨b, 0, none⟩)] w fun e w' => ∃ v, e = .returned v ∧ STwo w0 b m xb bx s r w' ∧
      Calls Try.prog 31 #[.pointer (some ⟨xb, 0, none⟩)] w' fun e w'' => ∃ v', e = .returned v' ∧ STwo w0 b m xb bx s r w'' ∧
        Calls Try.prog 29 #[v, v'] w'' fun e w3 => e = .returned (.bool true) ∧ STwo w0 b m xb bx s r w3 := by
  have h' := h
  have hrl : r.es.length = s.es.length := hs.perm.length_eq
  obtain ⟨lv, gv, h1, h2, h3, h4, h5, h6⟩ := h
  refine (slist_any b m s w h1 hl).mono ?_
  rintro e w' ⟨v, ks, rfl, ho, hp, hb⟩
  have t1 := h'.below hb
  refine ⟨v, rfl, t1, ?_⟩
  obtain ⟨lv, gv, h1, h2, h3, h4, h5, h6⟩ := t1
  refine (rlist_any h2 (by omega)).mono ?_
  rintro e w'' ⟨v', rfl, ho', hb'⟩
  have t2 := (h'.below hb).below hb'
  refine ⟨v', rfl, t2, ?_⟩
  have e1 : msort ks = keys r.es := hs.list hp
  have ho2 : OwnsO (w.heap.size + 1) w'' v (keys r.es) := by
    rw [← e1]
    exact ho.keeps (Keeps.of_below (S := fun _ => False) hb') (fun _ _ e => e)
  exact (ints10_same ho2 ho' (by simp [keys]; omega)).mono fun e w3 hp => ⟨hp.1, t2.below hp.2⟩
def PS.cnt (s : PS) (own : Bool) : Nat := s.count (if own then 1 else 0)
theorem SR.cnt (h : SR s r) (own : Bool) : r.count own = s.cnt own := h.count own
theorem t_openc (h : STwo w0 b m xb bx s r w) (hl : s.es.length ≤ 140737488355328) (own : Bool) :
    Calls Try.prog 10 #[.pointer (some ⟨b, 0, none⟩), .bool own] w fun e w' => e = .returned (.int .i64 (s.cnt own)) ∧ STwo w0 b m xb bx s r w' := t_open h hl own
theorem t_ropenc (h : STwo w0 b m xb bx s r w) (hs : SR s r) (hn : r.es.length ≤ 140737488355328) (own : Bool) :
    Calls Try.prog 32 #[.pointer (some ⟨xb, 0, none⟩), .bool own] w fun e w' => e = .returned (.int .i64 (s.cnt own)) ∧ STwo w0 b m xb bx s r w' := by
  rw [← hs.cnt own]
  exact (t_ropen h hn own).mono fun e w' hp => ⟨hp.1, hp.2 ▸ h⟩
theorem t_lastc (h : STwo w0 b m xb bx s r w) :
    Calls Try.prog 11 #[.pointer (some ⟨b, 0, none⟩)] w fun e w' => e = .returned (.int .i64 s.last0) ∧ STwo w0 b m xb bx s r w' := (t_last h).mono fun e w' hp => ⟨hp.1, hp.2 ▸ h⟩
set_option maxHeartbeats 4000000 in
set_option maxRecDepth 100000 in
theorem same_any (h : STwo w0 b m xb [] s r w) (hs : SR s r) (hl : s.es.length ≤ 1048576) (id : Int) :
    Calls Try.prog 13 #[.pointer (some ⟨b, 0, none⟩), .pointer (some ⟨xb, 0, none⟩), .int .i64 id] w fun e w' => e = .returned (.bool true) ∧ STwo w0 b m xb [] s r w' := by
  have hrl : r.es.length = s.es.length := hs.perm.length_eq
  have HX0 := Lib.hid h
  have HXD : Hid (STwo w0 b m xb [] s r w.drew) := Lib.hid (h.below ⟨rfl, rfl, rfl, Nat.le_refl _, fun _ _ => rfl⟩)
  have x0 := h.c5
  have y0 := h.lt
  have C1 := Lib.hid (fun (w : World) (h : STwo w0 b m xb [] s r w) => t_state h id)
  have C2 := Lib.hid (fun (w : World) (h : STwo w0 b m xb [] s r w) => t_rstate h (by omega) id)
  rw [← hs.state id] at C2
  have C3 := Lib.hid (fun (w : World) (h : STwo w0 b m xb [] s r w) => t_dropped h id)
  have C4 := Lib.hid (fun (w : World) (h : STwo w0 b m xb [] s r w) => t_rdropped h id)
  rw [← hs.dropped id] at C4
  have C5 := Lib.hid (fun (w : World) (h : STwo w0 b m xb [] s r w) => t_lists h hs hl)
  have C6 := Lib.hid (fun (own : Bool) (w : World) (h : STwo w0 b m xb [] s r w) => t_openc h (by omega) own)
  have C7 := Lib.hid (fun (own : Bool) (w : World) (h : STwo w0 b m xb [] s r w) => t_ropenc h hs (by omega) own)
  have C10 := Lib.hid (fun (w : World) (h : STwo w0 b m xb [] s r w) => t_lastc h)
  have e3 := hs.l0
  rw [e3] at x0
  have SC5 := Lib.hid (fun (w : World) (h : STwo w0 b m xb [] s r w) => (show w.cell? ⟨xb, 5, none⟩ = some (.int .i64 s.last0) ∧ xb < w.heap.size from ⟨e3 ▸ h.c5, h.lt⟩))
  clear h hs hl hrl e3
  generalize s.state id = q1 at *
  generalize s.dropped id = q2 at *
  generalize s.cnt = q3 at *
  generalize s.last0 = q5 at *
  go_enter Try.func13, Try.ntmps13
  go_upto_region 1 with fail
  go_region_held3 (fun w' => w'.cell? ⟨xb, 5, none⟩ = some (.int .i64 q5)) (first | exact x0 | exact x1 | exact x2 | exact x3 | exact x4 | exact x5 | exact x6 | exact x7 | exact x8 | exact x9 | go_keep)
    (first
      | (go_at_call 9; refine (C1.out _ (by first | exact HX0.out | exact HXD.out)).mono ?_; rintro e w1 ⟨rfl, hx⟩; have HX1 := Lib.hid hx; obtain ⟨x1, y1⟩ := SC5.out _ hx; clear hx)
      | (go_at_call 26; refine (C2.out _ HX1.out).mono ?_; rintro e w2 ⟨rfl, hx⟩; have HX2 := Lib.hid hx; obtain ⟨x2, y2⟩ := SC5.out _ hx; clear hx)
      | (go_at_call 27; refine (C3.out _ HX2.out).mono ?_; rintro e w3 ⟨rfl, hx⟩; have HX3 := Lib.hid hx; obtain ⟨x3, y3⟩ := SC5.out _ hx; clear hx)
      | (go_at_call 28; refine (C4.out _ HX3.out).mono ?_; rintro e w4 ⟨rfl, hx⟩; have HX4 := Lib.hid hx; obtain ⟨x4, y4⟩ := SC5.out _ hx; clear hx)
      | (go_at_call 30; refine (C5.out _ HX4.out).mono ?_; rintro e w5 ⟨v5, rfl, hx, hnx⟩; have HX5 := Lib.hid hx; have HN5 := Lib.hid hnx; obtain ⟨x5, y5⟩ := SC5.out _ hx; clear hx hnx)
      | (go_at_call 31; refine HN5.out.mono ?_; rintro e w6 ⟨v6, rfl, hx, hnx⟩; have HX6 := Lib.hid hx; have HN6 := Lib.hid hnx; obtain ⟨x6, y6⟩ := SC5.out _ hx; clear hx hnx)
      | (go_at_call 29; refine HN6.out.mono ?_; rintro e w7 ⟨rfl, hx⟩; have HX7 := Lib.hid hx; obtain ⟨x7, y7⟩ := SC5.out _ hx; clear hx)
      | (go_at_call 10; refine (C6.out _ _ (by first | exact HX8.out | exact HX7.out)).mono ?_; rintro e w8 ⟨rfl, hx⟩; have HX8 := Lib.hid hx; obtain ⟨x8, y8⟩ := SC5.out _ hx; clear hx)
      | (go_at_call 32; refine (C7.out _ _ HX8.out).mono ?_; rintro e w8 ⟨rfl, hx⟩; have HX8 := Lib.hid hx; obtain ⟨x8, y8⟩ := SC5.out _ hx; clear hx)
      | (go_at_call 11; refine (C10.out _ HX8.out).mono ?_; rintro e w9 ⟨rfl, hx⟩; have HX9 := Lib.hid hx; obtain ⟨x9, y9⟩ := SC5.out _ hx; clear hx))
  go_wp2_with fail
  all_goals go_ret
  all_goals exact ⟨rfl, HX9.out⟩
end
end Go.Proofs.Ytfhcafpocmapkaa
