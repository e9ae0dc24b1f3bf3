/- The walk of the reference streams' Peer. -/
import Derived.Test.YtfhcafpocmapkaaRStrState
import Derived.Deep.RegionHeld3
set_option linter.unusedVariables false
set_option linter.unusedSimpArgs false
set_option linter.unusedSectionVars false
namespace Go.Proofs.Ytfhcafpocmapkaa
open Go.RowKit
def RSCore (base xb : Nat) (lv gv : Value) (s' : RS) (w w' : World) : Prop :=
  ∃ lv' gv', RAt base w' xb lv' gv' s' ∧ (∀ x, rsfoot xb lv' gv' x → rsfoot xb lv gv x ∨ w.heap.size ≤ x) ∧ Keeps (rsfoot xb lv gv) w w'
theorem RSPost.core {base xb : Nat} {lv gv r : Value} {s' : RS} {w w' : World} {e : Ending} (h : RSPost base xb lv gv s' r w e w') : e = .returned r ∧ RSCore base xb lv gv s' w w' := by
  obtain ⟨lv', gv', he, a, b, c⟩ := h
  exact ⟨he, lv', gv', a, b, c⟩
theorem RSCore.post {base xb : Nat} {lv gv r : Value} {s' : RS} {w w' : World} (h : RSCore base xb lv gv s' w w') : RSPost base xb lv gv s' r w (.returned r) w' := by
  obtain ⟨lv', gv', a, b, c⟩ := h
  exact ⟨lv', gv', rfl, a, b, c⟩
theorem RSCore.boxed {base xb N : Nat} {lv gv : Value} {s' : RS} {w W w2 w3 : World} (hk : Keeps (rsfoot xb lv gv) w W) (hf : ∀ x, rsfoot xb lv gv x → x < N) (h1 : w.heap.size ≤ N) (h2 : N < W.heap.size) (h : RSCore base xb lv gv s' W w2) (k3 : Keeps (fun x => x = N) w2 w3) : RSCore base xb lv gv s' w w3 := by
  obtain ⟨lv', gv', a, b, c⟩ := h
  refine ⟨lv', gv', a.keeps k3 (fun x hx e => ?_), fun x hx => (b x hx).imp id (fun h => Nat.le_trans hk.size h), (hk.then c (fun x hx => .inl hx)).then k3 (fun x e => .inr (by omega))⟩
  rcases b x hx with h | h
  · have := hf x h; omega
  · omega
section
variable {base xb : Nat} {w : World} {lv gv : Value} {s : RS}
theorem rpeer_no {id : Int} (h : numberB id = false ∨ oursB s.server id = true ∨ id ≤ s.theirs) : s.peer id = (s, false, ⟨true, 0, 1⟩) := by rw [RS.peer, if_pos h]
set_option maxHeartbeats 4000000 in
set_option maxRecDepth 100000 in
theorem rpeer_any (h : RAt base w xb lv gv s) (hbase : base ≤ w.heap.size) (hn : s.es.length ≤ 4398046511104) (id : Int) : Calls Try.prog 18 #[.pointer (some ⟨xb, 0, none⟩), .int .i64 id] w (RSPost base xb lv gv (s.peer id).1 (.tuple #[.bool (s.peer id).2.1, (s.peer id).2.2.val]) w) := by
  obtain ⟨c0, c1, c2, c3, c4, c5, c6, hbl⟩ := h.cells
  have hfr := h.blk.free
  have H := Lib.hid h
  have HBASE := Lib.hid hbase
  have HNL := Lib.hid hn
  have HOW := Lib.hid (fun o => rown_any (h.below (below_al (Below.refl _ _) o)) id)
  have HNO : Hid (∀ o, (numberB id = false ∨ oursB s.server id = true ∨ id ≤ s.theirs) → RSPost base xb lv gv (s.peer id).1 (.tuple #[.bool (s.peer id).2.1, (s.peer id).2.2.val]) w (.returned (.tuple #[.bool false, .agg #[.bool true, .int .i64 0, .int .i64 1]])) (w.alloc o)) := Lib.hid (fun o hq => by
    rw [rpeer_no hq]
    exact rspost_below h (below_al (Below.refl _ _) o))
  clear h hbase hn
  by_cases q1 : id < 1
  · have HQ : Hid (numberB id = false ∨ oursB s.server id = true ∨ id ≤ s.theirs) := Lib.hid (.inl (by unfold numberB; rw [decide_eq_false_iff_not]; omega))
    have d1 : decide (id < 1) = true := decide_eq_true q1
    go_enter Try.func18, Try.ntmps18
    go_wp2_with fail
    refine bodyPost_ret (v := .tuple #[.bool false, .agg #[.bool true, .int .i64 0, .int .i64 1]]) (by simp [results, Try.results18, go_sem]) rfl ?_
    exact HNO.out _ HQ.out
  · have d1 : decide (id < 1) = false := decide_eq_false q1
    by_cases q2 : 2147483647 < id
    · have HQ : Hid (numberB id = false ∨ oursB s.server id = true ∨ id ≤ s.theirs) := Lib.hid (.inl (by unfold numberB; rw [decide_eq_false_iff_not]; omega))
      have d2 : decide (2147483647 < id) = true := decide_eq_true q2
      go_enter Try.func18, Try.ntmps18
      go_wp2_with fail
      refine bodyPost_ret (v := .tuple #[.bool false, .agg #[.bool true, .int .i64 0, .int .i64 1]]) (by simp [results, Try.results18, go_sem]) rfl ?_
      exact HNO.out _ HQ.out
    · have d2 : decide (2147483647 < id) = false := decide_eq_false q2
      have HNB : Hid (numberB id = true) := Lib.hid (by unfold numberB; rw [decide_eq_true_iff]; omega)
      cases hob : oursB s.server id with
      | true =>
        have HQ : Hid (numberB id = false ∨ oursB s.server id = true ∨ id ≤ s.theirs) := Lib.hid (.inr (.inl hob))
        rw [hob] at HOW
        clear hob
        go_enter Try.func18, Try.ntmps18
        go_wp2_with (go_at_call 34; refine (HOW.out _).mono ?_; rintro e wq ⟨rfl, rfl⟩)
        refine bodyPost_ret (v := .tuple #[.bool false, .agg #[.bool true, .int .i64 0, .int .i64 1]]) (by simp [results, Try.results18, go_sem]) rfl ?_
        exact HNO.out _ HQ.out
      | false =>
        rw [hob] at HOW
        by_cases q3 : id ≤ s.theirs
        · have HQ : Hid (numberB id = false ∨ oursB s.server id = true ∨ id ≤ s.theirs) := Lib.hid (.inr (.inr q3))
          have d3 : decide (id ≤ s.theirs) = true := decide_eq_true q3
          clear hob
          go_enter Try.func18, Try.ntmps18
          go_wp2_with (go_at_call 34; refine (HOW.out _).mono ?_; rintro e wq ⟨rfl, rfl⟩)
          refine bodyPost_ret (v := .tuple #[.bool false, .agg #[.bool true, .int .i64 0, .int .i64 1]]) (by simp [results, Try.results18, go_sem]) rfl ?_
          exact HNO.out _ HQ.out
        · have d3 : decide (id ≤ s.theirs) = false := decide_eq_false q3
          have HNQ : Hid (¬ (numberB id = false ∨ oursB s.server id = true ∨ id ≤ s.theirs)) := Lib.hid (by rw [HNB.out, hob]; simp; omega)
          clear hob
          obtain ⟨k1, k2⟩ := H.out.set1 (s' := { s with theirs := id }) 5 (.int .i64 id) rfl rfl rfl
          have HK1 := Lib.hid k2
          have HX1 : Hid (RAt base ((w.setCell ⟨xb, 5, none⟩ (.int .i64 id)).alloc (.cells #[.bool false, .int .i64 0, .int .i64 0] 53)).drew xb lv gv { s with theirs := id }) := Lib.hid (k1.below (below_al (Below.refl _ _) _).drew)
          have HBX : Hid (BlockIs ((w.setCell ⟨xb, 5, none⟩ (.int .i64 id)).alloc (.cells #[.bool false, .int .i64 0, .int .i64 0] 53)).drew w.heap.size [.bool false, .int .i64 0, .int .i64 0]) := Lib.hid (BlockIs.new' [.bool false, .int .i64 0, .int .i64 0] _ (by simp [size_setCell])).drew
          have HSZ : Hid (((w.setCell ⟨xb, 5, none⟩ (.int .i64 id)).alloc (.cells #[.bool false, .int .i64 0, .int .i64 0] 53)).drew.heap.size = w.heap.size + 1) := Lib.hid (by show ((w.setCell ⟨xb, 5, none⟩ (.int .i64 id)).alloc _).heap.size = _; simp [size_setCell])
          have HK2 : Hid (Keeps (rsfoot xb lv gv) w ((w.setCell ⟨xb, 5, none⟩ (.int .i64 id)).alloc (.cells #[.bool false, .int .i64 0, .int .i64 0] 53)).drew) := Lib.hid (HK1.out.alloc _).drew
          have HFL : Hid (∀ x, rsfoot xb lv gv x → x < w.heap.size) := Lib.hid (fun x hx => H.out.foot_lt hx)
          clear k1 k2
          have HOP : Hid (Calls Try.prog 32 #[.pointer (some ⟨xb, 0, none⟩), .bool false] ((w.setCell ⟨xb, 5, none⟩ (.int .i64 id)).alloc (.cells #[.bool false, .int .i64 0, .int .i64 0] 53)).drew fun e w' => e = .returned (.int .i64 (s.count false)) ∧ ((w.setCell ⟨xb, 5, none⟩ (.int .i64 id)).alloc (.cells #[.bool false, .int .i64 0, .int .i64 0] 53)).drew = w') := Lib.hid (ropen_any HX1.out (Nat.le_trans HNL.out (by decide)) false)
          have cz := HX1.out.cells.2.1
          by_cases q4 : s.most ≤ s.count false
          · have hfin := Lib.hid (show s.peer id = (({ s with theirs := id } : RS).drop id, false, noFault) by rw [RS.peer, if_neg HNQ.out, if_pos q4])
            have d4 : decide (s.most ≤ ((s.count false : Nat) : Int)) = true := decide_eq_true q4
            go_enter Try.func18, Try.ntmps18
            go_wp2_with (go_at_call 34; refine (HOW.out _).mono ?_; rintro e wq ⟨rfl, rfl⟩)
            go_region_held3 (fun w' => w'.cell? ⟨xb, 1, none⟩ = some (.int .i64 s.most)) (first | exact cz | go_keep) (first | (go_at_call 32; refine HOP.out.mono ?_; rintro e wq ⟨rfl, rfl⟩))
            generalize hW : ((w.setCell ⟨xb, 5, none⟩ (.int .i64 id)).alloc (.cells #[.bool false, .int .i64 0, .int .i64 0] 53)).drew = W at *
            clear hW
            have HDR := Lib.hid (rdrop_any HX1.out (Nat.le_trans HBASE.out HK2.out.size) id)
            go_wp2_with (go_at_call 35; refine HDR.out.mono ?_; rintro e w2 hp; obtain ⟨rfl, hc⟩ := hp.core; have HC := Lib.hid hc; obtain ⟨_, _, _, _, kk⟩ := hc; have hb2 := HBX.out.keeps kk (fun e => Nat.lt_irrefl _ (HFL.out _ e)); have HB2 := Lib.hid hb2; have y0 := hb2.cell 0; have y1 := hb2.cell 1; have y2 := hb2.cell 2; have yl := hb2.lt; have yf : ∀ o, w2.frozen? ⟨w.heap.size, o, none⟩ = false := hb2.free; simp only [List.getElem?_cons_zero, List.getElem?_cons_succ] at y0 y1 y2; clear hb2 kk hp)
            refine bodyPost_ret (v := .tuple #[.bool false, .agg #[.bool false, .int .i64 0, .int .i64 0]]) (by simp [results, Try.results18, go_sem, y0, y1, y2]) rfl ?_
            rw [hfin.out]
            refine (RSCore.boxed HK2.out HFL.out (Nat.le_refl _) (by have := HSZ.out; omega) HC.out ?_).post
            exact (((Keeps.refl (fun x => x = w.heap.size) _).set1 rfl _ _).set1 rfl _ _).set1 rfl _ _
          · have hfin := Lib.hid (show s.peer id = ({ s with theirs := id, es := rput id s.es }, true, noFault) by rw [RS.peer, if_neg HNQ.out, if_neg q4])
            have d4 : decide (s.most ≤ ((s.count false : Nat) : Int)) = false := decide_eq_false q4
            go_enter Try.func18, Try.ntmps18
            go_wp2_with (go_at_call 34; refine (HOW.out _).mono ?_; rintro e wq ⟨rfl, rfl⟩)
            go_region_held3 (fun w' => w'.cell? ⟨xb, 1, none⟩ = some (.int .i64 s.most)) (first | exact cz | go_keep) (first | (go_at_call 32; refine HOP.out.mono ?_; rintro e wq ⟨rfl, rfl⟩))
            generalize hW : ((w.setCell ⟨xb, 5, none⟩ (.int .i64 id)).alloc (.cells #[.bool false, .int .i64 0, .int .i64 0] 53)).drew = W at *
            clear hW
            have HDR := Lib.hid (rput_any HX1.out (Nat.le_trans HBASE.out HK2.out.size) HNL.out id)
            go_wp2_with (go_at_call 36; refine HDR.out.mono ?_; rintro e w2 hp; obtain ⟨rfl, hc⟩ := hp.core; have HC := Lib.hid hc; obtain ⟨_, _, _, _, kk⟩ := hc; have hb2 := HBX.out.keeps kk (fun e => Nat.lt_irrefl _ (HFL.out _ e)); have HB2 := Lib.hid hb2; have y0 := hb2.cell 0; have y1 := hb2.cell 1; have y2 := hb2.cell 2; have yl := hb2.lt; have yf : ∀ o, w2.frozen? ⟨w.heap.size, o, none⟩ = false := hb2.free; simp only [List.getElem?_cons_zero, List.getElem?_cons_succ] at y0 y1 y2; clear hb2 kk hp)
            refine bodyPost_ret (v := .tuple #[.bool true, .agg #[.bool false, .int .i64 0, .int .i64 0]]) (by simp [results, Try.results18, go_sem, y0, y1, y2]) rfl ?_
            rw [hfin.out]
            refine (RSCore.boxed HK2.out HFL.out (Nat.le_refl _) (by have := HSZ.out; omega) HC.out ?_).post
            exact (((Keeps.refl (fun x => x = w.heap.size) _).set1 rfl _ _).set1 rfl _ _).set1 rfl _ _
end
end Go.Proofs.Ytfhcafpocmapkaa
